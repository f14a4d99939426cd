/- What the law FnPost leans on, cut out of this repo's own texts by a program of this repo: plain functions, the walks that tie the Go calls to them, the law over lists and numbers, and the row. -/
import Derived.Test.YtpcjpjjkaplebaaZFnPost4
import Derived.RowKit
import Derived.IntWalk
namespace Go.Proofs.Ytpcjpjjkaplebaa.P
end Go.Proofs.Ytpcjpjjkaplebaa.P
namespace Go.Proofs.Ytpcjpjjkaplebaa.EV
end Go.Proofs.Ytpcjpjjkaplebaa.EV
namespace Go.Proofs.Ytpcjpjjkaplebaa.I1
end Go.Proofs.Ytpcjpjjkaplebaa.I1
namespace Go.Proofs.Ytpcjpjjkaplebaa.N1
end Go.Proofs.Ytpcjpjjkaplebaa.N1
namespace Go.Proofs.Ytpcjpjjkaplebaa.B1
end Go.Proofs.Ytpcjpjjkaplebaa.B1
namespace Go.Proofs.Ytpcjpjjkaplebaa.B2
end Go.Proofs.Ytpcjpjjkaplebaa.B2
namespace Go.Proofs.Ytpcjpjjkaplebaa.B3
end Go.Proofs.Ytpcjpjjkaplebaa.B3
namespace Go.Proofs.Ytpcjpjjkaplebaa.B4
end Go.Proofs.Ytpcjpjjkaplebaa.B4
namespace Go.Proofs.Ytpcjpjjkaplebaa.G1
end Go.Proofs.Ytpcjpjjkaplebaa.G1
namespace Go.Proofs.Ytpcjpjjkaplebaa.B5
end Go.Proofs.Ytpcjpjjkaplebaa.B5
namespace Go.Proofs.Ytpcjpjjkaplebaa.D1
end Go.Proofs.Ytpcjpjjkaplebaa.D1
namespace Go.Proofs.Ytpcjpjjkaplebaa.P
open Go.RowKit Go.Proofs.YtpcjpjjkaplebaaW.PrintWords Go.Proofs.YtpcjpjjkaplebaaW.PrintLast Go.Proofs.YtpcjpjjkaplebaaW.PrintMore
attribute [local go_sem] max2_int min2_int max_two min_two max_three min_three max_four min_four   -- for this text's walks alone
set_option linter.unusedVariables false
set_option linter.unusedSimpArgs false
def laws_within.l0 : Nat → List Int → Int → Int → Option (Bool)
 | 0, _, _, _ => none
 | k + 1, x0, x1, x5 => if x5 < (x0.length : Int) then (if 0 ≤ x5 then (if (rd x0 x5) = x1 then (some true) else (laws_within.l0 k x0 x1 (wrap64 (x5 + 1)))) else (none)) else (some false)
def laws_within.f (k : Nat) (l0 : List Int) (a1 : Int) : Option (Bool) := laws_within.l0 k l0 a1 0
set_option maxHeartbeats 8000000 in
set_option maxRecDepth 100000 in
theorem laws_within.calls (k : Nat) (A0 : Option Addr) (c0 : Nat) (l0 : List Int) (a1 : Int) (r : Bool) (w : World) (hr0 : Kd.C (Kd.int .i64) w A0 l0.length l0) (hc0 : l0.length ≤ c0) (h : laws_within.f k l0 a1 = some r) :
 Calls Try.prog 40 #[.slice A0 l0.length c0, .int .i64 a1] w fun e w' => e = .returned (.bool r) ∧ Drawn0 w w' := by
 have HR0 := Aside0.mk hr0
 have HC0 := Aside0.mk hc0
 clear hr0 hc0
 have H : (laws_within.l0 k l0 a1 0) = some r := h
 clear h
 have H' := Aside0.mk H
 clear H
 go_enter Try.func40, Try.ntmps40
 go_wp2
 go_loopg [5] k (fun kq v5 w' => ∃ (x5_1 : Int), v5 = .int .i64 x5_1 ∧ Aside0 (laws_within.l0 kq l0 a1 x5_1 = some r) ∧ Aside0 (kq ≤ k) ∧ Drawn0 w w')
 case atStart => exact ⟨(0), (by first | rfl | (simp; done) | (simp [*]; done)), H', ⟨Nat.le_refl _⟩, by repeat (first | exact Drawn0.refl _ | apply Drawn0.step)⟩
 case round =>
  clear H'
  try clear p2
  obtain ⟨x5_1, rfl, HA, HK1, ⟨m1, rfl⟩⟩ := hrel
  cases gk with
  | zero => exact absurd HA.out (by simp [laws_within.l0])
  | succ k1 =>
   have H := HA.out
   clear HA
   simp only [laws_within.l0] at H
   by_cases c3 : x5_1 < (l0.length : Int)
   ·
    rw [if_pos c3] at H
    have c3b0 : decide (x5_1 < (l0.length : Int)) = true := decide_eq_true c3
    clear c3
    by_cases c4 : 0 ≤ x5_1
    ·
     rw [if_pos c4] at H
     have c4b0 : decide (0 ≤ x5_1) = true := decide_eq_true c4
     clear c4
     by_cases c5 : (rd l0 x5_1) = a1
     ·
      rw [if_pos c5] at H
      have c5b0 : ((rd l0 x5_1) == a1) = true := beq_iff_eq.mpr c5
      have c5b1 : ((rd l0 x5_1) != a1) = false := bne_eq_false_iff_eq.mpr c5
      clear c5
      obtain rfl := Option.some.inj H
      have p816 : 0 ≤ (x5_1 : Int) := of_decide_eq_true (by first | (with_reducible assumption) | assumption)
      have q816 : x5_1 < (l0.length : Int) := of_decide_eq_true (by first | (with_reducible assumption) | assumption)
      obtain ⟨ad816, e816, hx816_0⟩ := Kd.at_int HR0.out x5_1 p816 q816
      cases e816
      replace p816 := eq_true p816
      replace q816 := eq_true q816
      go_wp2
      go_ret
      exact ⟨by first | rfl | (simp; done) | (simp [*]; done), by repeat (first | exact Drawn0.refl _ | apply Drawn0.step)⟩
     ·
      rw [if_neg c5] at H
      have c5b0 : ((rd l0 x5_1) == a1) = false := beq_eq_false_iff_ne.mpr c5
      have c5b1 : ((rd l0 x5_1) != a1) = true := bne_iff_ne.mpr c5
      have H' := Aside0.mk H
      clear H
      have p816 : 0 ≤ (x5_1 : Int) := of_decide_eq_true (by first | (with_reducible assumption) | assumption)
      have q816 : x5_1 < (l0.length : Int) := of_decide_eq_true (by first | (with_reducible assumption) | assumption)
      obtain ⟨ad816, e816, hx816_0⟩ := Kd.at_int HR0.out x5_1 p816 q816
      cases e816
      replace p816 := eq_true p816
      replace q816 := eq_true q816
      go_wp2
      go_roundg k1
      case measure => have := HK1.out; omega
      case rel => exact ⟨(wrap64 (x5_1 + 1)), (by first | rfl | (simp; done) | (simp [*]; done)), H', ⟨by have := HK1.out; omega⟩, by repeat (first | exact Drawn0.refl _ | apply Drawn0.step)⟩
    ·
     rw [if_neg c4] at H
     exact absurd H (by simp)
   ·
    rw [if_neg c3] at H
    have c3b0 : decide (x5_1 < (l0.length : Int)) = false := decide_eq_false c3
    clear c3
    obtain rfl := Option.some.inj H
    go_wp2
    go_ret
    exact ⟨by first | rfl | (simp; done) | (simp [*]; done), by repeat (first | exact Drawn0.refl _ | apply Drawn0.step)⟩
end Go.Proofs.Ytpcjpjjkaplebaa.P
namespace Go.Proofs.Ytpcjpjjkaplebaa.P
open Go.RowKit Go.Proofs.YtpcjpjjkaplebaaW.PrintWords Go.Proofs.YtpcjpjjkaplebaaW.PrintLast Go.Proofs.YtpcjpjjkaplebaaW.PrintMore
attribute [local go_sem] max2_int min2_int max_two min_two max_three min_three max_four min_four   -- for this text's walks alone
set_option linter.unusedVariables false
set_option linter.unusedSimpArgs false
mutual
def laws_FnPost.l0 : Nat → List (S58) → List (S61) → List Int → List (S58) → Int → Option (Bool)
 | 0, _, _, _, _, _ => none
 | k + 1, x3, x4, x5, x6, x10 => if x10 < (x4.length : Int) then (laws_FnPost.l1 k x3 x4 x5 x6 x10 0 0) else ((impl_BalsOk.f k x6).bind fun t837 => (if t837 = true then ((impl_LegsOk.f k x4).bind fun t838 => (some t838)) else (none)))
def laws_FnPost.l1 : Nat → List (S58) → List (S61) → List Int → List (S58) → Int → Int → Int → Option (Bool)
 | 0, _, _, _, _, _, _, _ => none
 | k + 1, x3, x4, x5, x6, x10, x11, x12 => if x12 < (x4.length : Int) then (if 0 ≤ x12 then (if 0 ≤ x10 then (if x10 < (x4.length : Int) then (if ((rd_T61 x4 x12).f0) = ((rd_T61 x4 x10).f0) then (if ((rd_T61 x4 x12).f1) = ((rd_T61 x4 x10).f1) then (laws_FnPost.l1 k x3 x4 x5 x6 x10 (wrap64 (x11 + ((rd_T61 x4 x12).f2))) (wrap64 (x12 + 1))) else (laws_FnPost.l1 k x3 x4 x5 x6 x10 x11 (wrap64 (x12 + 1)))) else (laws_FnPost.l1 k x3 x4 x5 x6 x10 x11 (wrap64 (x12 + 1)))) else (none)) else (none)) else (none)) else (if 0 ≤ x10 then (if x10 < (x4.length : Int) then ((spec_BalOf.f k x3 ((rd_T61 x4 x10).f0) ((rd_T61 x4 x10).f1)).bind fun t846 => ((impl_BalOf.f k x6 ((rd_T61 x4 x10).f0) ((rd_T61 x4 x10).f1)).bind fun t849 => (if t849 = (wrap64 (t846 + x11)) then (if t849 < 0 then ((laws_within.f k x5 ((rd_T61 x4 x10).f0)).bind fun t851 => (laws_FnPost.j2 k x3 x4 x5 x6 x10 (!t851))) else (laws_FnPost.j2 k x3 x4 x5 x6 x10 false)) else (none)))) else (none)) else (none))
def laws_FnPost.j2 : Nat → List (S58) → List (S61) → List Int → List (S58) → Int → Bool → Option (Bool)
 | 0, _, _, _, _, _, _ => none
 | k + 1, x3, x4, x5, x6, x10, x147 => if x147 = true then (none) else (if 0 ≤ x10 then (if x10 < (x4.length : Int) then ((spec_BalsSum.f k x3 ((rd_T61 x4 x10).f1)).bind fun bt853 => ((impl_BalsSum.f k x6 ((rd_T61 x4 x10).f1)).bind fun bt856 => (if bt853.2 = true then (if bt856.2 = true then (if bt853.1 = bt856.1 then (laws_FnPost.l0 k x3 x4 x5 x6 (wrap64 (x10 + 1))) else (none)) else (laws_FnPost.l0 k x3 x4 x5 x6 (wrap64 (x10 + 1)))) else (laws_FnPost.l0 k x3 x4 x5 x6 (wrap64 (x10 + 1)))))) else (none)) else (none))
end
def laws_FnPost.f (k : Nat) (l0 : List Int) : Option (Bool) := (laws_big.f l0).bind fun t817 => (if t817 = true then (some true) else ((spec_DrawBalsPost.f k l0).bind fun bt818 => ((impl_BalsPost.f k bt818.1 bt818.2.1 bt818.2.2).bind fun bt827 => ((spec_BalsPost.f k bt818.1 bt818.2.1 bt818.2.2).bind fun bt831 => (if bt827.2 = bt831.2 then (if bt827.2 = 1 then (some ((bt827.1.length : Int) == 0)) else (if bt827.2 = 0 then (laws_FnPost.l0 k bt818.1 bt818.2.1 bt818.2.2 bt827.1 0) else ((laws_sameBals.f k bt827.1 bt818.1).bind fun t835 => (if t835 = true then ((impl_LegsOk.f k bt818.2.1).bind fun t836 => (some ((bt827.2 == 2) == (!t836)))) else (none))))) else (none))))))
def laws_FnPost.T19 : Bool × List (List Nat × List Nat) := (true, [([], []), ([], []), ([0, 1], [0, 1]), ([2], [2]), ([3], [3]), ([], []), ([], []), ([5, 6], [5, 6]), ([7], [7]), ([8], [8]), ([4, 9], [4, 9]), ([10], [10]), ([11], [11]), ([11], [11]), ([12, 13, 11], [11, 12, 13]), ([14, 11], [11, 14]), ([15, 11], [11, 15]), ([11], [11]), ([11], [11]), ([17, 18, 11], [11, 17, 18]), ([19, 11], [11, 19]), ([20, 11], [11, 20]), ([16, 21, 11], [11, 16, 21]), ([11, 22], [11, 22])])
def laws_FnPost.B19 : List Nat := [0, 0, 3, 7, 15, 0, 0, 96, 224, 480, 1023, 2047, 4095, 4095, 16383, 32767, 65535, 4095, 4095, 397311, 921599, 1970175, 4194303, 8388607]
theorem laws_FnPost.tab19 : rtab .any (opsOf Try.f11 19) = laws_FnPost.T19 := by kernel_rfl
theorem laws_FnPost.bits19 : waitsOk laws_FnPost.T19.2 laws_FnPost.B19 = true := by kernel_rfl
def laws_FnPost.T21 : Bool × List (List Nat × List Nat) := (true, [([], []), ([], []), ([], []), ([1, 2], [1, 2]), ([3], [3]), ([4], [4]), ([], []), ([], []), ([6, 7], [6, 7]), ([8], [8]), ([9], [9]), ([0, 5, 10], [0, 5, 10]), ([], []), ([], []), ([], []), ([13, 14], [13, 14]), ([15], [15]), ([16], [16]), ([], []), ([], []), ([18, 19], [18, 19]), ([20], [20]), ([21], [21]), ([12, 17, 22, 11], [12, 17, 22]), ([11, 23, 0, 1, 2, 3, 4, 5, 6, 7, 8, 9, 10, 11], [11]), ([23, 24, 0, 1, 2, 3, 4, 5, 6, 7, 8, 9, 10, 11, 12, 13, 14, 15, 16, 17, 18, 19, 20, 21, 22, 23, 24], [23])])
def laws_FnPost.B21 : List Nat := [0, 0, 0, 6, 14, 30, 0, 0, 192, 448, 960, 2047, 0, 0, 0, 24576, 57344, 122880, 0, 0, 786432, 1835008, 3932160, 8388607, 16777215, 33554431]
theorem laws_FnPost.tab21 : rtab .any (opsOf Try.f11 21) = laws_FnPost.T21 := by kernel_rfl
theorem laws_FnPost.bits21 : waitsOk laws_FnPost.T21.2 laws_FnPost.B21 = true := by kernel_rfl
set_option maxHeartbeats 8000000 in
set_option maxRecDepth 100000 in
theorem laws_FnPost.calls (k : Nat) (A0 : Option Addr) (c0 : Nat) (l0 : List Int) (r : Bool) (w : World) (hr0 : Kd.C (Kd.int .u8) w A0 l0.length l0) (hc0 : l0.length ≤ c0) (h : laws_FnPost.f k l0 = some r) :
 Calls Try.prog 11 #[.slice A0 l0.length c0] w fun e w' => e = .returned (.bool r) ∧ Below w.heap.size w w' := by
 have HR0 := Aside0.mk hr0
 have HC0 := Aside0.mk hc0
 clear hr0 hc0
 have HB := Aside0.mk (Below.refl w.heap.size w)
 have H : ((laws_big.f l0).bind fun t817 => (if t817 = true then (some true) else ((spec_DrawBalsPost.f k l0).bind fun bt818 => ((impl_BalsPost.f k bt818.1 bt818.2.1 bt818.2.2).bind fun bt827 => ((spec_BalsPost.f k bt818.1 bt818.2.1 bt818.2.2).bind fun bt831 => (if bt827.2 = bt831.2 then (if bt827.2 = 1 then (some ((bt827.1.length : Int) == 0)) else (if bt827.2 = 0 then (laws_FnPost.l0 k bt818.1 bt818.2.1 bt818.2.2 bt827.1 0) else ((laws_sameBals.f k bt827.1 bt818.1).bind fun t835 => (if t835 = true then ((impl_LegsOk.f k bt818.2.1).bind fun t836 => (some ((bt827.2 == 2) == (!t836)))) else (none))))) else (none))))))) = some r := h
 clear h
 replace H := Option.bind_eq_some_iff.mp H
 obtain ⟨t817, A20, H⟩ := H
 replace H : (if t817 = true then (some true) else ((spec_DrawBalsPost.f k l0).bind fun bt818 => ((impl_BalsPost.f k bt818.1 bt818.2.1 bt818.2.2).bind fun bt827 => ((spec_BalsPost.f k bt818.1 bt818.2.1 bt818.2.2).bind fun bt831 => (if bt827.2 = bt831.2 then (if bt827.2 = 1 then (some ((bt827.1.length : Int) == 0)) else (if bt827.2 = 0 then (laws_FnPost.l0 k bt818.1 bt818.2.1 bt818.2.2 bt827.1 0) else ((laws_sameBals.f k bt827.1 bt818.1).bind fun t835 => (if t835 = true then ((impl_LegsOk.f k bt818.2.1).bind fun t836 => (some ((bt827.2 == 2) == (!t836)))) else (none))))) else (none)))))) = some r := H
 have A2 := Aside0.mk A20
 clear A20
 by_cases c3 : t817 = true
 ·
  subst c3
  have H1 : (some true) = some r := by rw [if_pos rfl] at H; exact H
  clear H
  have H := H1
  clear H1
  obtain rfl := Option.some.inj H
  go_enter Try.func11, Try.ntmps11
  go_wp2_with (first | ((with_reducible refine gate_callee (f := 36) rfl ?_); refine goesL_ (some 20) rfl rfl Try.func36 (by kernel_rfl) rfl #[.slice A0 l0.length c0] rfl (by (try simp only [List.map_toArray, List.map_cons, List.map_nil]); first | done | rfl | (simp only [List.length_drop, List.length_take]; rfl)) ?_; (with_reducible refine (laws_big.calls _ _ l0 true _ ?side1 ?side2 A2.out).mono ?_); (case side1 => repeat (first | exact HR0.out | (with_reducible refine Kd.C_alloc ?_ _) | (with_reducible refine Kd.C_drewN ?_ _) | (with_reducible refine Kd.C_drew ?_))); (case side2 => exact HC0.out); rintro e w' ⟨rfl, ⟨nd, rfl⟩⟩; refine ⟨_, rfl, ?_⟩))
  go_ret
  exact ⟨by first | rfl | (simp [errW_none, errW_some] <;> rfl) | (simp [*, errW_none, errW_some] <;> rfl), bb_⟩
 ·
  replace c3 := Bool.eq_false_iff.mpr c3
  subst c3
  have H1 : ((spec_DrawBalsPost.f k l0).bind fun bt818 => ((impl_BalsPost.f k bt818.1 bt818.2.1 bt818.2.2).bind fun bt827 => ((spec_BalsPost.f k bt818.1 bt818.2.1 bt818.2.2).bind fun bt831 => (if bt827.2 = bt831.2 then (if bt827.2 = 1 then (some ((bt827.1.length : Int) == 0)) else (if bt827.2 = 0 then (laws_FnPost.l0 k bt818.1 bt818.2.1 bt818.2.2 bt827.1 0) else ((laws_sameBals.f k bt827.1 bt818.1).bind fun t835 => (if t835 = true then ((impl_LegsOk.f k bt818.2.1).bind fun t836 => (some ((bt827.2 == 2) == (!t836)))) else (none))))) else (none))))) = some r := by rw [if_neg (show ¬ (false = true) by decide)] at H; exact H
  clear H
  have H := H1
  clear H1
  replace H := Option.bind_eq_some_iff.mp H
  obtain ⟨⟨t818, t819, t820⟩, A40, H⟩ := H
  replace H : ((impl_BalsPost.f k t818 t819 t820).bind fun bt827 => ((spec_BalsPost.f k t818 t819 t820).bind fun bt831 => (if bt827.2 = bt831.2 then (if bt827.2 = 1 then (some ((bt827.1.length : Int) == 0)) else (if bt827.2 = 0 then (laws_FnPost.l0 k t818 t819 t820 bt827.1 0) else ((laws_sameBals.f k bt827.1 t818).bind fun t835 => (if t835 = true then ((impl_LegsOk.f k t819).bind fun t836 => (some ((bt827.2 == 2) == (!t836)))) else (none))))) else (none)))) = some r := H
  have A4 := Aside0.mk A40
  clear A40
  replace H := Option.bind_eq_some_iff.mp H
  obtain ⟨⟨t827, t828⟩, A50, H⟩ := H
  replace H : ((spec_BalsPost.f k t818 t819 t820).bind fun bt831 => (if t828 = bt831.2 then (if t828 = 1 then (some ((t827.length : Int) == 0)) else (if t828 = 0 then (laws_FnPost.l0 k t818 t819 t820 t827 0) else ((laws_sameBals.f k t827 t818).bind fun t835 => (if t835 = true then ((impl_LegsOk.f k t819).bind fun t836 => (some ((t828 == 2) == (!t836)))) else (none))))) else (none))) = some r := H
  have A5 := Aside0.mk A50
  clear A50
  replace H := Option.bind_eq_some_iff.mp H
  obtain ⟨⟨t831, t832⟩, A60, H⟩ := H
  replace H : (if t828 = t832 then (if t828 = 1 then (some ((t827.length : Int) == 0)) else (if t828 = 0 then (laws_FnPost.l0 k t818 t819 t820 t827 0) else ((laws_sameBals.f k t827 t818).bind fun t835 => (if t835 = true then ((impl_LegsOk.f k t819).bind fun t836 => (some ((t828 == 2) == (!t836)))) else (none))))) else (none)) = some r := H
  have A6 := Aside0.mk A60
  clear A60
  by_cases c7 : t828 = t832
  ·
   rw [if_pos c7] at H
   have c7b0 : (t828 == t832) = true := beq_iff_eq.mpr c7
   have c7b1 : (t828 != t832) = false := bne_eq_false_iff_eq.mpr c7
   clear c7
   by_cases c8 : t828 = 1
   ·
    rw [if_pos c8] at H
    have c8b0 : (t828 == 1) = true := beq_iff_eq.mpr c8
    have c8b1 : (t828 != 1) = false := bne_eq_false_iff_eq.mpr c8
    clear c8
    obtain rfl := Option.some.inj H
    go_enter Try.func11, Try.ntmps11
    go_wp2_with (first | ((with_reducible refine gate_callee (f := 36) rfl ?_); refine goesL_ (some 20) rfl rfl Try.func36 (by kernel_rfl) rfl #[.slice A0 l0.length c0] rfl (by (try simp only [List.map_toArray, List.map_cons, List.map_nil]); first | done | rfl | (simp only [List.length_drop, List.length_take]; rfl)) ?_; (with_reducible refine (laws_big.calls _ _ l0 false _ ?side1 ?side2 A2.out).mono ?_); (case side1 => repeat (first | exact HR0.out | (with_reducible refine Kd.C_alloc ?_ _) | (with_reducible refine Kd.C_drewN ?_ _) | (with_reducible refine Kd.C_drew ?_))); (case side2 => exact HC0.out); rintro e w' ⟨rfl, ⟨nd, rfl⟩⟩; refine ⟨_, rfl, ?_⟩) | ((with_reducible refine gate_callee (f := 38) rfl ?_); refine goesL_ (some 23) rfl rfl Try.func38 (by kernel_rfl) rfl #[.slice A0 l0.length c0] rfl (by (try simp only [List.map_toArray, List.map_cons, List.map_nil]); first | done | rfl | (simp only [List.length_drop, List.length_take]; rfl)) ?_; (with_reducible refine (spec_DrawBalsPost.calls k _ _ l0 t818 t819 t820 _ ?side1 ?side2 A4.out).mono ?_); (case side1 => repeat (first | exact HR0.out | (with_reducible refine Kd.C_alloc ?_ _) | (with_reducible refine Kd.C_drewN ?_ _) | (with_reducible refine Kd.C_drew ?_))); (case side2 => exact HC0.out); rintro e w9 ⟨v821, v823, v825, rfl, ho0, ho1, ho2, hb⟩; refine ⟨_, rfl, ?_⟩; have n0_ := Aside0.mk (Kd.R_lower ho0 (below_size (bb_))); have n1_ := Aside0.mk (Kd.R_lower ho1 (below_size (bb_))); have n2_ := Aside0.mk (Kd.R_lower ho2 (below_size (bb_))); have n3_ := Aside0.mk (below_step (bb_) hb); clear HB; have HO822 := n0_; have HO824 := n1_; have HO826 := n2_; have HB := n3_; clear n0_ n1_ n2_ n3_; (try clear hb); (try clear hb2); (try clear hk); (try clear hi); (try clear ho0); (try clear ho1); (try clear ho2); obtain ⟨Ao10, co10, eo10⟩ := Kd.R_slice HO822.out; subst eo10; obtain ⟨Ao11, co11, eo11⟩ := Kd.R_slice HO824.out; subst eo11; obtain ⟨Ao12, co12, eo12⟩ := Kd.R_slice HO826.out; subst eo12) | ((with_reducible refine gate_callee (f := 32) rfl ?_); refine goesL_ (some 31) rfl rfl Try.func32 (by kernel_rfl) rfl #[.slice Ao10 t818.length co10, .slice Ao11 t819.length co11, .slice Ao12 t820.length co12] rfl (by (try simp only [List.map_toArray, List.map_cons, List.map_nil]); first | done | rfl | (simp only [List.length_drop, List.length_take]; rfl)) ?_; (with_reducible refine (impl_BalsPost.calls k _ _ t818 _ _ t819 _ _ t820 t827 t828 _ ?side1 ?side2 ?side3 ?side4 ?side5 ?side6 A5.out).mono ?_); (case side1 => repeat (first | exact (Kd.R_reads' HO822.out).2.2 | (with_reducible refine Kd.C_alloc ?_ _) | (with_reducible refine Kd.C_drewN ?_ _) | (with_reducible refine Kd.C_drew ?_))); (case side2 => exact (Kd.R_reads' HO822.out).2.1); (case side3 => repeat (first | exact (Kd.R_reads' HO824.out).2.2 | (with_reducible refine Kd.C_alloc ?_ _) | (with_reducible refine Kd.C_drewN ?_ _) | (with_reducible refine Kd.C_drew ?_))); (case side4 => exact (Kd.R_reads' HO824.out).2.1); (case side5 => repeat (first | exact (Kd.R_reads' HO826.out).2.2 | (with_reducible refine Kd.C_alloc ?_ _) | (with_reducible refine Kd.C_drewN ?_ _) | (with_reducible refine Kd.C_drew ?_))); (case side6 => exact (Kd.R_reads' HO826.out).2.1); rintro e w13 ⟨v829, rfl, ho0, hb⟩; refine ⟨_, rfl, ?_⟩; have n0_ := Aside0.mk (Kd.R_elder' (by (with_reducible repeat (first | apply Kd.R_alloc | apply Kd.R_drewN | apply Kd.R_drew)); exact HO822.out) (Kd.R_base ho0) hb); have n1_ := Aside0.mk (Kd.R_below (by (with_reducible repeat (first | apply Kd.R_alloc | apply Kd.R_drewN | apply Kd.R_drew)); exact HO824.out) hb); have n2_ := Aside0.mk (Kd.R_below (by (with_reducible repeat (first | apply Kd.R_alloc | apply Kd.R_drewN | apply Kd.R_drew)); exact HO826.out) hb); have n3_ := Aside0.mk (Kd.R_lower (Kd.R_new' ho0 (Kd.R_lt (by (with_reducible repeat (first | apply Kd.R_alloc | apply Kd.R_drewN | apply Kd.R_drew)); exact HO822.out))) (below_size (bb_))); have n4_ := Aside0.mk (below_step (bb_) hb); clear HO822; clear HO824; clear HO826; clear HB; have HO822 := n0_; have HO824 := n1_; have HO826 := n2_; have HO830 := n3_; have HB := n4_; clear n0_ n1_ n2_ n3_ n4_; (try clear hb); (try clear hb2); (try clear hk); (try clear hi); (try clear ho0)) | ((with_reducible refine gate_callee (f := 30) rfl ?_); refine goesL_ (some 38) rfl rfl Try.func30 (by kernel_rfl) rfl #[.slice Ao10 t818.length co10, .slice Ao11 t819.length co11, .slice Ao12 t820.length co12] rfl (by (try simp only [List.map_toArray, List.map_cons, List.map_nil]); first | done | rfl | (simp only [List.length_drop, List.length_take]; rfl)) ?_; (with_reducible refine (spec_BalsPost.calls k _ _ t818 _ _ t819 _ _ t820 t831 t832 _ ?side1 ?side2 ?side3 ?side4 ?side5 ?side6 A6.out).mono ?_); (case side1 => repeat (first | exact (Kd.R_reads' HO822.out).2.2 | (with_reducible refine Kd.C_alloc ?_ _) | (with_reducible refine Kd.C_drewN ?_ _) | (with_reducible refine Kd.C_drew ?_))); (case side2 => exact (Kd.R_reads' HO822.out).2.1); (case side3 => repeat (first | exact (Kd.R_reads' HO824.out).2.2 | (with_reducible refine Kd.C_alloc ?_ _) | (with_reducible refine Kd.C_drewN ?_ _) | (with_reducible refine Kd.C_drew ?_))); (case side4 => exact (Kd.R_reads' HO824.out).2.1); (case side5 => repeat (first | exact (Kd.R_reads' HO826.out).2.2 | (with_reducible refine Kd.C_alloc ?_ _) | (with_reducible refine Kd.C_drewN ?_ _) | (with_reducible refine Kd.C_drew ?_))); (case side6 => exact (Kd.R_reads' HO826.out).2.1); rintro e w14 ⟨v833, rfl, ho0, hb⟩; refine ⟨_, rfl, ?_⟩; have n0_ := Aside0.mk (Kd.R_elder' (by (with_reducible repeat (first | apply Kd.R_alloc | apply Kd.R_drewN | apply Kd.R_drew)); exact HO822.out) (Kd.R_base ho0) hb); have n1_ := Aside0.mk (Kd.R_below (by (with_reducible repeat (first | apply Kd.R_alloc | apply Kd.R_drewN | apply Kd.R_drew)); exact HO824.out) hb); have n2_ := Aside0.mk (Kd.R_below (by (with_reducible repeat (first | apply Kd.R_alloc | apply Kd.R_drewN | apply Kd.R_drew)); exact HO826.out) hb); have n3_ := Aside0.mk (Kd.R_elder' (by (with_reducible repeat (first | apply Kd.R_alloc | apply Kd.R_drewN | apply Kd.R_drew)); exact HO830.out) (Kd.R_base ho0) hb); have n4_ := Aside0.mk (Kd.R_lower (Kd.R_new' (Kd.R_new' ho0 (Kd.R_lt (by (with_reducible repeat (first | apply Kd.R_alloc | apply Kd.R_drewN | apply Kd.R_drew)); exact HO822.out))) (Kd.R_lt (by (with_reducible repeat (first | apply Kd.R_alloc | apply Kd.R_drewN | apply Kd.R_drew)); exact HO830.out))) (below_size (bb_))); have n5_ := Aside0.mk (below_step (bb_) hb); clear HO822; clear HO824; clear HO826; clear HO830; clear HB; have HO822 := n0_; have HO824 := n1_; have HO826 := n2_; have HO830 := n3_; have HO834 := n4_; have HB := n5_; clear n0_ n1_ n2_ n3_ n4_ n5_; (try clear hb); (try clear hb2); (try clear hk); (try clear hi); (try clear ho0); obtain ⟨Ao15, co15, eo15⟩ := Kd.R_slice HO830.out; subst eo15))
    go_ret
    exact ⟨by first | rfl | (simp [errW_none, errW_some] <;> rfl) | (simp [*, errW_none, errW_some] <;> rfl), bb_⟩
   ·
    rw [if_neg c8] at H
    have c8b0 : (t828 == 1) = false := beq_eq_false_iff_ne.mpr c8
    have c8b1 : (t828 != 1) = true := bne_iff_ne.mpr c8
    by_cases c16 : t828 = 0
    ·
     rw [if_pos c16] at H
     have c16b0 : (t828 == 0) = true := beq_iff_eq.mpr c16
     have c16b1 : (t828 != 0) = false := bne_eq_false_iff_eq.mpr c16
     clear c16
     have H' := Aside0.mk H
     clear H
     go_enter Try.func11, Try.ntmps11
     go_wp2_with (first | ((with_reducible refine gate_callee (f := 36) rfl ?_); refine goesL_ (some 20) rfl rfl Try.func36 (by kernel_rfl) rfl #[.slice A0 l0.length c0] rfl (by (try simp only [List.map_toArray, List.map_cons, List.map_nil]); first | done | rfl | (simp only [List.length_drop, List.length_take]; rfl)) ?_; (with_reducible refine (laws_big.calls _ _ l0 false _ ?side1 ?side2 A2.out).mono ?_); (case side1 => repeat (first | exact HR0.out | (with_reducible refine Kd.C_alloc ?_ _) | (with_reducible refine Kd.C_drewN ?_ _) | (with_reducible refine Kd.C_drew ?_))); (case side2 => exact HC0.out); rintro e w' ⟨rfl, ⟨nd, rfl⟩⟩; refine ⟨_, rfl, ?_⟩) | ((with_reducible refine gate_callee (f := 38) rfl ?_); refine goesL_ (some 23) rfl rfl Try.func38 (by kernel_rfl) rfl #[.slice A0 l0.length c0] rfl (by (try simp only [List.map_toArray, List.map_cons, List.map_nil]); first | done | rfl | (simp only [List.length_drop, List.length_take]; rfl)) ?_; (with_reducible refine (spec_DrawBalsPost.calls k _ _ l0 t818 t819 t820 _ ?side1 ?side2 A4.out).mono ?_); (case side1 => repeat (first | exact HR0.out | (with_reducible refine Kd.C_alloc ?_ _) | (with_reducible refine Kd.C_drewN ?_ _) | (with_reducible refine Kd.C_drew ?_))); (case side2 => exact HC0.out); rintro e w17 ⟨v821, v823, v825, rfl, ho0, ho1, ho2, hb⟩; refine ⟨_, rfl, ?_⟩; have n0_ := Aside0.mk (Kd.R_lower ho0 (below_size (bb_))); have n1_ := Aside0.mk (Kd.R_lower ho1 (below_size (bb_))); have n2_ := Aside0.mk (Kd.R_lower ho2 (below_size (bb_))); have n3_ := Aside0.mk (below_step (bb_) hb); clear HB; have HO822 := n0_; have HO824 := n1_; have HO826 := n2_; have HB := n3_; clear n0_ n1_ n2_ n3_; (try clear hb); (try clear hb2); (try clear hk); (try clear hi); (try clear ho0); (try clear ho1); (try clear ho2); obtain ⟨Ao18, co18, eo18⟩ := Kd.R_slice HO822.out; subst eo18; obtain ⟨Ao19, co19, eo19⟩ := Kd.R_slice HO824.out; subst eo19; obtain ⟨Ao20, co20, eo20⟩ := Kd.R_slice HO826.out; subst eo20) | ((with_reducible refine gate_callee (f := 32) rfl ?_); refine goesL_ (some 31) rfl rfl Try.func32 (by kernel_rfl) rfl #[.slice Ao18 t818.length co18, .slice Ao19 t819.length co19, .slice Ao20 t820.length co20] rfl (by (try simp only [List.map_toArray, List.map_cons, List.map_nil]); first | done | rfl | (simp only [List.length_drop, List.length_take]; rfl)) ?_; (with_reducible refine (impl_BalsPost.calls k _ _ t818 _ _ t819 _ _ t820 t827 t828 _ ?side1 ?side2 ?side3 ?side4 ?side5 ?side6 A5.out).mono ?_); (case side1 => repeat (first | exact (Kd.R_reads' HO822.out).2.2 | (with_reducible refine Kd.C_alloc ?_ _) | (with_reducible refine Kd.C_drewN ?_ _) | (with_reducible refine Kd.C_drew ?_))); (case side2 => exact (Kd.R_reads' HO822.out).2.1); (case side3 => repeat (first | exact (Kd.R_reads' HO824.out).2.2 | (with_reducible refine Kd.C_alloc ?_ _) | (with_reducible refine Kd.C_drewN ?_ _) | (with_reducible refine Kd.C_drew ?_))); (case side4 => exact (Kd.R_reads' HO824.out).2.1); (case side5 => repeat (first | exact (Kd.R_reads' HO826.out).2.2 | (with_reducible refine Kd.C_alloc ?_ _) | (with_reducible refine Kd.C_drewN ?_ _) | (with_reducible refine Kd.C_drew ?_))); (case side6 => exact (Kd.R_reads' HO826.out).2.1); rintro e w21 ⟨v829, rfl, ho0, hb⟩; refine ⟨_, rfl, ?_⟩; have n0_ := Aside0.mk (Kd.R_elder' (by (with_reducible repeat (first | apply Kd.R_alloc | apply Kd.R_drewN | apply Kd.R_drew)); exact HO822.out) (Kd.R_base ho0) hb); have n1_ := Aside0.mk (Kd.R_below (by (with_reducible repeat (first | apply Kd.R_alloc | apply Kd.R_drewN | apply Kd.R_drew)); exact HO824.out) hb); have n2_ := Aside0.mk (Kd.R_below (by (with_reducible repeat (first | apply Kd.R_alloc | apply Kd.R_drewN | apply Kd.R_drew)); exact HO826.out) hb); have n3_ := Aside0.mk (Kd.R_lower (Kd.R_new' ho0 (Kd.R_lt (by (with_reducible repeat (first | apply Kd.R_alloc | apply Kd.R_drewN | apply Kd.R_drew)); exact HO822.out))) (below_size (bb_))); have n4_ := Aside0.mk (below_step (bb_) hb); clear HO822; clear HO824; clear HO826; clear HB; have HO822 := n0_; have HO824 := n1_; have HO826 := n2_; have HO830 := n3_; have HB := n4_; clear n0_ n1_ n2_ n3_ n4_; (try clear hb); (try clear hb2); (try clear hk); (try clear hi); (try clear ho0)) | ((with_reducible refine gate_callee (f := 30) rfl ?_); refine goesL_ (some 38) rfl rfl Try.func30 (by kernel_rfl) rfl #[.slice Ao18 t818.length co18, .slice Ao19 t819.length co19, .slice Ao20 t820.length co20] rfl (by (try simp only [List.map_toArray, List.map_cons, List.map_nil]); first | done | rfl | (simp only [List.length_drop, List.length_take]; rfl)) ?_; (with_reducible refine (spec_BalsPost.calls k _ _ t818 _ _ t819 _ _ t820 t831 t832 _ ?side1 ?side2 ?side3 ?side4 ?side5 ?side6 A6.out).mono ?_); (case side1 => repeat (first | exact (Kd.R_reads' HO822.out).2.2 | (with_reducible refine Kd.C_alloc ?_ _) | (with_reducible refine Kd.C_drewN ?_ _) | (with_reducible refine Kd.C_drew ?_))); (case side2 => exact (Kd.R_reads' HO822.out).2.1); (case side3 => repeat (first | exact (Kd.R_reads' HO824.out).2.2 | (with_reducible refine Kd.C_alloc ?_ _) | (with_reducible refine Kd.C_drewN ?_ _) | (with_reducible refine Kd.C_drew ?_))); (case side4 => exact (Kd.R_reads' HO824.out).2.1); (case side5 => repeat (first | exact (Kd.R_reads' HO826.out).2.2 | (with_reducible refine Kd.C_alloc ?_ _) | (with_reducible refine Kd.C_drewN ?_ _) | (with_reducible refine Kd.C_drew ?_))); (case side6 => exact (Kd.R_reads' HO826.out).2.1); rintro e w22 ⟨v833, rfl, ho0, hb⟩; refine ⟨_, rfl, ?_⟩; have n0_ := Aside0.mk (Kd.R_elder' (by (with_reducible repeat (first | apply Kd.R_alloc | apply Kd.R_drewN | apply Kd.R_drew)); exact HO822.out) (Kd.R_base ho0) hb); have n1_ := Aside0.mk (Kd.R_below (by (with_reducible repeat (first | apply Kd.R_alloc | apply Kd.R_drewN | apply Kd.R_drew)); exact HO824.out) hb); have n2_ := Aside0.mk (Kd.R_below (by (with_reducible repeat (first | apply Kd.R_alloc | apply Kd.R_drewN | apply Kd.R_drew)); exact HO826.out) hb); have n3_ := Aside0.mk (Kd.R_elder' (by (with_reducible repeat (first | apply Kd.R_alloc | apply Kd.R_drewN | apply Kd.R_drew)); exact HO830.out) (Kd.R_base ho0) hb); have n4_ := Aside0.mk (Kd.R_lower (Kd.R_new' (Kd.R_new' ho0 (Kd.R_lt (by (with_reducible repeat (first | apply Kd.R_alloc | apply Kd.R_drewN | apply Kd.R_drew)); exact HO822.out))) (Kd.R_lt (by (with_reducible repeat (first | apply Kd.R_alloc | apply Kd.R_drewN | apply Kd.R_drew)); exact HO830.out))) (below_size (bb_))); have n5_ := Aside0.mk (below_step (bb_) hb); clear HO822; clear HO824; clear HO826; clear HO830; clear HB; have HO822 := n0_; have HO824 := n1_; have HO826 := n2_; have HO830 := n3_; have HO834 := n4_; have HB := n5_; clear n0_ n1_ n2_ n3_ n4_ n5_; (try clear hb); (try clear hb2); (try clear hk); (try clear hi); (try clear ho0)))
     go_loopg [10] k (fun kq v10 w' => ∃ (x10_1 : Int), v10 = .int .i64 x10_1 ∧ Aside0 (laws_FnPost.l0 kq t818 t819 t820 t827 x10_1 = some r) ∧ Aside0 (kq ≤ k) ∧ Aside0 (Kd.R k58 58 w' w.heap.size (fun k_ => some k_ ≠ (v829 : Value).ownBlock) (.slice Ao18 t818.length co18) t818) ∧ Aside0 (Kd.R k61 61 w' w.heap.size (fun _ => True) (.slice Ao19 t819.length co19) t819) ∧ Aside0 (Kd.R (Kd.int .i64) 3 w' w.heap.size (fun _ => True) (.slice Ao20 t820.length co20) t820) ∧ Aside0 (Kd.R k58 58 w' w.heap.size (fun k_ => some k_ ≠ ((.slice Ao18 t818.length co18) : Value).ownBlock) v829 t827) ∧ Aside0 (Below w.heap.size w w'))
     case atStart => exact ⟨(0), (by first | rfl | (simp; done) | (simp [*]; done)), H', ⟨Nat.le_refl _⟩, ⟨by (with_reducible repeat (first | apply Kd.R_alloc | apply Kd.R_drewN | apply Kd.R_drew)); exact Kd.R_mono HO822.out (fun _ hk => hk.1.2)⟩, ⟨by (with_reducible repeat (first | apply Kd.R_alloc | apply Kd.R_drewN | apply Kd.R_drew)); exact HO824.out⟩, ⟨by (with_reducible repeat (first | apply Kd.R_alloc | apply Kd.R_drewN | apply Kd.R_drew)); exact HO826.out⟩, ⟨by (with_reducible repeat (first | apply Kd.R_alloc | apply Kd.R_drewN | apply Kd.R_drew)); exact Kd.R_mono HO830.out (fun _ hk => hk.1.2)⟩, ⟨bb_⟩⟩
     case round =>
      clear H'
      try clear c1
      try clear p2
      try clear c3
      try clear c7
      try clear c7b0
      try clear c7b1
      try clear c8
      try clear c8b0
      try clear c8b1
      try clear c11
      try clear c16
      try clear c16b0
      try clear c16b1
      obtain ⟨x10_1, rfl, HA, HK1, HO_3, HO_4, HO_5, HO_6, HB⟩ := hrel
      cases gk with
      | zero => exact absurd HA.out (by simp [laws_FnPost.l0])
      | succ k1 =>
       have H := HA.out
       clear HA
       simp only [laws_FnPost.l0] at H
       by_cases c23 : x10_1 < (t819.length : Int)
       ·
        rw [if_pos c23] at H
        have c23b0 : decide (x10_1 < (t819.length : Int)) = true := decide_eq_true c23
        clear c23
        have H' := Aside0.mk H
        clear H
        go_wp2
        go_loopg [11, 12] k1 (fun kq v11 v12 w' => ∃ (x11_2 : Int) (x12_2 : Int), v11 = .int .i64 x11_2 ∧ v12 = .int .i64 x12_2 ∧ Aside0 (laws_FnPost.l1 kq t818 t819 t820 t827 x10_1 x11_2 x12_2 = some r) ∧ Aside0 (kq ≤ k1) ∧ Aside0 (Kd.R k58 58 w' w.heap.size (fun k_ => some k_ ≠ (v829 : Value).ownBlock) (.slice Ao18 t818.length co18) t818) ∧ Aside0 (Kd.R k61 61 w' w.heap.size (fun _ => True) (.slice Ao19 t819.length co19) t819) ∧ Aside0 (Kd.R (Kd.int .i64) 3 w' w.heap.size (fun _ => True) (.slice Ao20 t820.length co20) t820) ∧ Aside0 (Kd.R k58 58 w' w.heap.size (fun k_ => some k_ ≠ ((.slice Ao18 t818.length co18) : Value).ownBlock) v829 t827) ∧ Aside0 (Below w.heap.size w w'))
        case atStart => exact ⟨(0), (0), (by first | rfl | (simp; done) | (simp [*]; done)), (by first | rfl | (simp; done) | (simp [*]; done)), H', ⟨Nat.le_refl _⟩, ⟨by (with_reducible repeat (first | apply Kd.R_alloc | apply Kd.R_drewN | apply Kd.R_drew)); exact HO_3.out⟩, ⟨by (with_reducible repeat (first | apply Kd.R_alloc | apply Kd.R_drewN | apply Kd.R_drew)); exact HO_4.out⟩, ⟨by (with_reducible repeat (first | apply Kd.R_alloc | apply Kd.R_drewN | apply Kd.R_drew)); exact HO_5.out⟩, ⟨by (with_reducible repeat (first | apply Kd.R_alloc | apply Kd.R_drewN | apply Kd.R_drew)); exact HO_6.out⟩, ⟨bb_⟩⟩
        case round =>
         clear H'
         try clear c1
         try clear c2
         try clear p2
         try clear c3
         try clear c7
         try clear c7b0
         try clear c7b1
         try clear c8
         try clear c8b0
         try clear c8b1
         try clear c11
         try clear c16
         try clear c16b0
         try clear c16b1
         try clear c23
         try clear c23b0
         try clear p2
         obtain ⟨x11_2, x12_2, rfl, rfl, HA, HK2, HO_3, HO_4, HO_5, HO_6, HB⟩ := hrel
         cases gk with
         | zero => exact absurd HA.out (by simp [laws_FnPost.l1])
         | succ k2 =>
          have H := HA.out
          clear HA
          simp only [laws_FnPost.l1] at H
          by_cases c24 : x12_2 < (t819.length : Int)
          ·
           rw [if_pos c24] at H
           have c24b0 : decide (x12_2 < (t819.length : Int)) = true := decide_eq_true c24
           clear c24
           by_cases c25 : 0 ≤ x12_2
           ·
            rw [if_pos c25] at H
            have c25b0 : decide (0 ≤ x12_2) = true := decide_eq_true c25
            clear c25
            by_cases c26 : 0 ≤ x10_1
            ·
             rw [if_pos c26] at H
             have c26b0 : decide (0 ≤ x10_1) = true := decide_eq_true c26
             clear c26
             by_cases c27 : x10_1 < (t819.length : Int)
             ·
              rw [if_pos c27] at H
              have c27b0 : decide (x10_1 < (t819.length : Int)) = true := decide_eq_true c27
              clear c27
              by_cases c28 : ((rd_T61 t819 x12_2).f0) = ((rd_T61 t819 x10_1).f0)
              ·
               rw [if_pos c28] at H
               have c28b0 : (((rd_T61 t819 x12_2).f0) == ((rd_T61 t819 x10_1).f0)) = true := beq_iff_eq.mpr c28
               have c28b1 : (((rd_T61 t819 x12_2).f0) != ((rd_T61 t819 x10_1).f0)) = false := bne_eq_false_iff_eq.mpr c28
               clear c28
               by_cases c29 : ((rd_T61 t819 x12_2).f1) = ((rd_T61 t819 x10_1).f1)
               ·
                rw [if_pos c29] at H
                have c29b0 : (((rd_T61 t819 x12_2).f1) == ((rd_T61 t819 x10_1).f1)) = true := beq_iff_eq.mpr c29
                have c29b1 : (((rd_T61 t819 x12_2).f1) != ((rd_T61 t819 x10_1).f1)) = false := bne_eq_false_iff_eq.mpr c29
                clear c29
                have H' := Aside0.mk H
                clear H
                try go_wp2
                have n0_ := Aside0.mk (Kd.R_drew HO_3.out)
                have n1_ := Aside0.mk (Kd.R_drew HO_4.out)
                have n2_ := Aside0.mk (Kd.R_drew HO_5.out)
                have n3_ := Aside0.mk (Kd.R_drew HO_6.out)
                have n4_ := Aside0.mk (below_drew1 HB.out)
                clear HO_3
                clear HO_4
                clear HO_5
                clear HO_6
                clear HB
                have HO_3 := n0_
                have HO_4 := n1_
                have HO_5 := n2_
                have HO_6 := n3_
                have HB := n4_
                clear n0_ n1_ n2_ n3_ n4_
                have p839 : 0 ≤ (x12_2 : Int) := of_decide_eq_true (by first | (with_reducible assumption) | assumption)
                have q839 : x12_2 < (t819.length : Int) := of_decide_eq_true (by first | (with_reducible assumption) | assumption)
                obtain ⟨ad839, e839, hx839_0, hx839_1, hx839_2⟩ := at_T61 (Kd.R_reads' HO_4.out).2.2 x12_2 p839 q839
                cases e839
                replace p839 := eq_true p839
                replace q839 := eq_true q839
                have p840 : 0 ≤ (x10_1 : Int) := of_decide_eq_true (by first | (with_reducible assumption) | assumption)
                have q840 : x10_1 < (t819.length : Int) := of_decide_eq_true (by first | (with_reducible assumption) | assumption)
                obtain ⟨ad840, e840, hx840_0, hx840_1, hx840_2⟩ := at_T61 (Kd.R_reads' HO_4.out).2.2 x10_1 p840 q840
                obtain rfl : ad839 = ad840 := (by injection e840)
                replace p840 := eq_true p840
                replace q840 := eq_true q840
                have p841 : 0 ≤ (x12_2 : Int) := of_decide_eq_true (by first | (with_reducible assumption) | assumption)
                have q841 : x12_2 < (t819.length : Int) := of_decide_eq_true (by first | (with_reducible assumption) | assumption)
                obtain ⟨ad841, e841, hx841_0, hx841_1, hx841_2⟩ := at_T61 (Kd.R_reads' HO_4.out).2.2 x12_2 p841 q841
                obtain rfl : ad839 = ad841 := (by injection e841)
                replace p841 := eq_true p841
                replace q841 := eq_true q841
                have p842 : 0 ≤ (x10_1 : Int) := of_decide_eq_true (by first | (with_reducible assumption) | assumption)
                have q842 : x10_1 < (t819.length : Int) := of_decide_eq_true (by first | (with_reducible assumption) | assumption)
                obtain ⟨ad842, e842, hx842_0, hx842_1, hx842_2⟩ := at_T61 (Kd.R_reads' HO_4.out).2.2 x10_1 p842 q842
                obtain rfl : ad839 = ad842 := (by injection e842)
                replace p842 := eq_true p842
                replace q842 := eq_true q842
                refine start_ (n := 24) (S := fun w' => w'.cell? (ad839.add ((x12_2).toNat * 3)) = some (.int .i64 ((rd_T61 t819 x12_2).f0)) ∧ w'.cell? ⟨(ad839.add ((x12_2).toNat * 3)).block, (ad839.add ((x12_2).toNat * 3)).off + 1, none⟩ = some (.int .i64 ((rd_T61 t819 x12_2).f1)) ∧ w'.cell? ⟨(ad839.add ((x12_2).toNat * 3)).block, (ad839.add ((x12_2).toNat * 3)).off + 2, none⟩ = some (.int .i64 ((rd_T61 t819 x12_2).f2)) ∧ w'.cell? (ad839.add ((x10_1).toNat * 3)) = some (.int .i64 ((rd_T61 t819 x10_1).f0)) ∧ w'.cell? ⟨(ad839.add ((x10_1).toNat * 3)).block, (ad839.add ((x10_1).toNat * 3)).off + 1, none⟩ = some (.int .i64 ((rd_T61 t819 x10_1).f1)) ∧ w'.cell? ⟨(ad839.add ((x10_1).toNat * 3)).block, (ad839.add ((x10_1).toNat * 3)).off + 2, none⟩ = some (.int .i64 ((rd_T61 t819 x10_1).f2)) ∧ w'.cell? (ad839.add ((x12_2).toNat * 3)) = some (.int .i64 ((rd_T61 t819 x12_2).f0)) ∧ w'.cell? ⟨(ad839.add ((x12_2).toNat * 3)).block, (ad839.add ((x12_2).toNat * 3)).off + 1, none⟩ = some (.int .i64 ((rd_T61 t819 x12_2).f1)) ∧ w'.cell? ⟨(ad839.add ((x12_2).toNat * 3)).block, (ad839.add ((x12_2).toNat * 3)).off + 2, none⟩ = some (.int .i64 ((rd_T61 t819 x12_2).f2)) ∧ w'.cell? (ad839.add ((x10_1).toNat * 3)) = some (.int .i64 ((rd_T61 t819 x10_1).f0)) ∧ w'.cell? ⟨(ad839.add ((x10_1).toNat * 3)).block, (ad839.add ((x10_1).toNat * 3)).off + 1, none⟩ = some (.int .i64 ((rd_T61 t819 x10_1).f1)) ∧ w'.cell? ⟨(ad839.add ((x10_1).toNat * 3)).block, (ad839.add ((x10_1).toNat * 3)).off + 2, none⟩ = some (.int .i64 ((rd_T61 t819 x10_1).f2))) (ds := []) #[false, false, false, false, false, false, false, false, false, false, false, false, false, false, false, false, false, false, false, false, false, false, false, false] (by kernel_rfl) rfl rfl ⟨hx839_0, hx839_1, hx839_2, hx840_0, hx840_1, hx840_2, hx841_0, hx841_1, hx841_2, hx842_0, hx842_1, hx842_2⟩ (fun hHeld => ?_); refine with_tabW laws_FnPost.tab19 laws_FnPost.bits19 (fun HT_ HW_ => ?_)
                generalize wr.drew = w30 at HO_3 HO_4 HO_5 HO_6 HB hx839_0 hx839_1 hx839_2 hx840_0 hx840_1 hx840_2 hx841_0 hx841_1 hx841_2 hx842_0 hx842_1 hx842_2 hHeld ⊢
                refine pure_ (i := 0) (N := some 74) (v := ?_) (a' := ?_) #[true, false, false, false, false, false, false, false, false, false, false, false, false, false, false, false, false, false, false, false, false, false, false, false] rfl rfl (any_of HT_.out (by kernel_rfl)) (fun _ _ _ h => h) (Or.inl ⟨by rfl, ?_⟩) ?_ ?_
                rotate_left
                ·
                 intro w'
                 go_simp
                 with_reducible rfl
                rotate_left
                ·
                 simp only [Act.put, List.setIfInBounds_toArray, List.set_cons_zero, List.set_cons_succ, i64_w, i32_w]
                 rfl
                refine pure_ (i := 1) (N := some 75) (v := ?_) (a' := ?_) #[true, true, false, false, false, false, false, false, false, false, false, false, false, false, false, false, false, false, false, false, false, false, false, false] rfl rfl (any_of HT_.out (by kernel_rfl)) (fun _ _ _ h => h) (Or.inl ⟨by rfl, ?_⟩) ?_ ?_
                rotate_left
                ·
                 intro w'
                 go_simp
                 with_reducible rfl
                rotate_left
                ·
                 simp only [Act.put, List.setIfInBounds_toArray, List.set_cons_zero, List.set_cons_succ, i64_w, i32_w]
                 rfl
                refine pure_ (i := 2) (N := some 76) (v := ?_) (a' := ?_) #[true, true, true, false, false, false, false, false, false, false, false, false, false, false, false, false, false, false, false, false, false, false, false, false] rfl rfl (any_of HT_.out (by kernel_rfl)) (fun _ _ _ h => h) (Or.inl ⟨by rfl, ?_⟩) ?_ ?_
                rotate_left
                ·
                 intro w'
                 go_simp
                 with_reducible rfl
                rotate_left
                ·
                 simp only [Act.put, List.setIfInBounds_toArray, List.set_cons_zero, List.set_cons_succ, i64_w, i32_w]
                 rfl
                refine pure_ (i := 3) (N := some 77) (v := ?_) (a' := ?_) #[true, true, true, true, false, false, false, false, false, false, false, false, false, false, false, false, false, false, false, false, false, false, false, false] rfl rfl (any_of HT_.out (by kernel_rfl)) (fun _ _ _ h => h) (Or.inl ⟨by rfl, ?_⟩) ?_ ?_
                rotate_left
                ·
                 intro w'
                 go_simp
                 with_reducible rfl
                rotate_left
                ·
                 simp only [Act.put, List.setIfInBounds_toArray, List.set_cons_zero, List.set_cons_succ, i64_w, i32_w]
                 rfl
                refine pure_ (i := 5) (N := some 79) (v := ?_) (a' := ?_) #[true, true, true, true, false, true, false, false, false, false, false, false, false, false, false, false, false, false, false, false, false, false, false, false] rfl rfl (any_of HT_.out (by kernel_rfl)) (fun _ _ _ h => h) (Or.inl ⟨by rfl, ?_⟩) ?_ ?_
                rotate_left
                ·
                 intro w'
                 go_simp
                 with_reducible rfl
                rotate_left
                ·
                 simp only [Act.put, List.setIfInBounds_toArray, List.set_cons_zero, List.set_cons_succ, i64_w, i32_w]
                 rfl
                refine pure_ (i := 6) (N := some 80) (v := ?_) (a' := ?_) #[true, true, true, true, false, true, true, false, false, false, false, false, false, false, false, false, false, false, false, false, false, false, false, false] rfl rfl (any_of HT_.out (by kernel_rfl)) (fun _ _ _ h => h) (Or.inl ⟨by rfl, ?_⟩) ?_ ?_
                rotate_left
                ·
                 intro w'
                 go_simp
                 with_reducible rfl
                rotate_left
                ·
                 simp only [Act.put, List.setIfInBounds_toArray, List.set_cons_zero, List.set_cons_succ, i64_w, i32_w]
                 rfl
                refine pure_ (i := 7) (N := some 81) (v := ?_) (a' := ?_) #[true, true, true, true, false, true, true, true, false, false, false, false, false, false, false, false, false, false, false, false, false, false, false, false] rfl rfl (any_of HT_.out (by kernel_rfl)) (fun _ _ _ h => h) (Or.inl ⟨by rfl, ?_⟩) ?_ ?_
                rotate_left
                ·
                 intro w'
                 go_simp
                 with_reducible rfl
                rotate_left
                ·
                 simp only [Act.put, List.setIfInBounds_toArray, List.set_cons_zero, List.set_cons_succ, i64_w, i32_w]
                 rfl
                refine pure_ (i := 8) (N := some 82) (v := ?_) (a' := ?_) #[true, true, true, true, false, true, true, true, true, false, false, false, false, false, false, false, false, false, false, false, false, false, false, false] rfl rfl (any_of HT_.out (by kernel_rfl)) (fun _ _ _ h => h) (Or.inl ⟨by rfl, ?_⟩) ?_ ?_
                rotate_left
                ·
                 intro w'
                 go_simp
                 with_reducible rfl
                rotate_left
                ·
                 simp only [Act.put, List.setIfInBounds_toArray, List.set_cons_zero, List.set_cons_succ, i64_w, i32_w]
                 rfl
                refine take_ (i := 4) (N := some 78) (v := ?_) (a' := ?_) #[true, true, true, true, true, true, true, true, true, false, false, false, false, false, false, false, false, false, false, false, false, false, false, false] rfl rfl (take_ofW HT_.out HW_.out (by kernel_rfl)) (fun _ _ _ h => h) (Or.inl ⟨by rfl, ?_⟩) hHeld ?_ ?_
                rotate_left
                ·
                 rintro w' ⟨s0, s1, s2, s3, s4, s5, s6, s7, s8, s9, s10, s11⟩
                 go_simp
                 with_reducible rfl
                rotate_left
                ·
                 simp only [Act.put, List.setIfInBounds_toArray, List.set_cons_zero, List.set_cons_succ, i64_w, i32_w]
                 rfl
                refine take_ (i := 9) (N := some 83) (v := ?_) (a' := ?_) #[true, true, true, true, true, true, true, true, true, true, false, false, false, false, false, false, false, false, false, false, false, false, false, false] rfl rfl (take_ofW HT_.out HW_.out (by kernel_rfl)) (fun _ _ _ h => h) (Or.inl ⟨by rfl, ?_⟩) hHeld ?_ ?_
                rotate_left
                ·
                 rintro w' ⟨s0, s1, s2, s3, s4, s5, s6, s7, s8, s9, s10, s11⟩
                 go_simp
                 with_reducible rfl
                rotate_left
                ·
                 simp only [Act.put, List.setIfInBounds_toArray, List.set_cons_zero, List.set_cons_succ, i64_w, i32_w]
                 rfl
                refine pure_ (i := 10) (N := some 84) (v := ?_) (a' := ?_) #[true, true, true, true, true, true, true, true, true, true, true, false, false, false, false, false, false, false, false, false, false, false, false, false] rfl rfl (any_of HT_.out (by kernel_rfl)) (fun _ _ _ h => h) (Or.inl ⟨by rfl, ?_⟩) ?_ ?_
                rotate_left
                ·
                 intro w'
                 go_simp
                 with_reducible rfl
                rotate_left
                ·
                 simp only [Act.put, List.setIfInBounds_toArray, List.set_cons_zero, List.set_cons_succ, i64_w, i32_w]
                 rfl
                refine pure_ (i := 11) (N := some 85) (v := ?_) (a' := ?_) #[true, true, true, true, true, true, true, true, true, true, true, true, false, false, false, false, false, false, false, false, false, false, false, false] rfl rfl (any_of HT_.out (by kernel_rfl)) (fun _ _ _ h => h) (Or.inl ⟨by rfl, ?_⟩) ?_ ?_
                rotate_left
                ·
                 intro w'
                 go_simp
                 with_reducible rfl
                rotate_left
                ·
                 simp only [Act.put, List.setIfInBounds_toArray, List.set_cons_zero, List.set_cons_succ, i64_w, i32_w]
                 rfl
                refine pure_ (i := 12) (N := some 86) (v := ?_) (a' := ?_) #[true, true, true, true, true, true, true, true, true, true, true, true, true, false, false, false, false, false, false, false, false, false, false, false] rfl rfl (any_of HT_.out (by kernel_rfl)) (fun _ _ _ h => h) (Or.inl ⟨by rfl, ?_⟩) ?_ ?_
                rotate_left
                ·
                 intro w'
                 go_simp
                 with_reducible rfl
                rotate_left
                ·
                 simp only [Act.put, List.setIfInBounds_toArray, List.set_cons_zero, List.set_cons_succ, i64_w, i32_w]
                 rfl
                refine pure_ (i := 13) (N := some 87) (v := ?_) (a' := ?_) #[true, true, true, true, true, true, true, true, true, true, true, true, true, true, false, false, false, false, false, false, false, false, false, false] rfl rfl (any_of HT_.out (by kernel_rfl)) (fun _ _ _ h => h) (Or.inl ⟨by rfl, ?_⟩) ?_ ?_
                rotate_left
                ·
                 intro w'
                 go_simp
                 with_reducible rfl
                rotate_left
                ·
                 simp only [Act.put, List.setIfInBounds_toArray, List.set_cons_zero, List.set_cons_succ, i64_w, i32_w]
                 rfl
                refine pure_ (i := 14) (N := some 88) (v := ?_) (a' := ?_) #[true, true, true, true, true, true, true, true, true, true, true, true, true, true, true, false, false, false, false, false, false, false, false, false] rfl rfl (any_of HT_.out (by kernel_rfl)) (fun _ _ _ h => h) (Or.inl ⟨by rfl, ?_⟩) ?_ ?_
                rotate_left
                ·
                 intro w'
                 go_simp
                 with_reducible rfl
                rotate_left
                ·
                 simp only [Act.put, List.setIfInBounds_toArray, List.set_cons_zero, List.set_cons_succ, i64_w, i32_w]
                 rfl
                refine pure_ (i := 15) (N := some 89) (v := ?_) (a' := ?_) #[true, true, true, true, true, true, true, true, true, true, true, true, true, true, true, true, false, false, false, false, false, false, false, false] rfl rfl (any_of HT_.out (by kernel_rfl)) (fun _ _ _ h => h) (Or.inl ⟨by rfl, ?_⟩) ?_ ?_
                rotate_left
                ·
                 intro w'
                 go_simp
                 with_reducible rfl
                rotate_left
                ·
                 simp only [Act.put, List.setIfInBounds_toArray, List.set_cons_zero, List.set_cons_succ, i64_w, i32_w]
                 rfl
                refine pure_ (i := 17) (N := some 91) (v := ?_) (a' := ?_) #[true, true, true, true, true, true, true, true, true, true, true, true, true, true, true, true, false, true, false, false, false, false, false, false] rfl rfl (any_of HT_.out (by kernel_rfl)) (fun _ _ _ h => h) (Or.inl ⟨by rfl, ?_⟩) ?_ ?_
                rotate_left
                ·
                 intro w'
                 go_simp
                 with_reducible rfl
                rotate_left
                ·
                 simp only [Act.put, List.setIfInBounds_toArray, List.set_cons_zero, List.set_cons_succ, i64_w, i32_w]
                 rfl
                refine pure_ (i := 18) (N := some 92) (v := ?_) (a' := ?_) #[true, true, true, true, true, true, true, true, true, true, true, true, true, true, true, true, false, true, true, false, false, false, false, false] rfl rfl (any_of HT_.out (by kernel_rfl)) (fun _ _ _ h => h) (Or.inl ⟨by rfl, ?_⟩) ?_ ?_
                rotate_left
                ·
                 intro w'
                 go_simp
                 with_reducible rfl
                rotate_left
                ·
                 simp only [Act.put, List.setIfInBounds_toArray, List.set_cons_zero, List.set_cons_succ, i64_w, i32_w]
                 rfl
                refine pure_ (i := 19) (N := some 93) (v := ?_) (a' := ?_) #[true, true, true, true, true, true, true, true, true, true, true, true, true, true, true, true, false, true, true, true, false, false, false, false] rfl rfl (any_of HT_.out (by kernel_rfl)) (fun _ _ _ h => h) (Or.inl ⟨by rfl, ?_⟩) ?_ ?_
                rotate_left
                ·
                 intro w'
                 go_simp
                 with_reducible rfl
                rotate_left
                ·
                 simp only [Act.put, List.setIfInBounds_toArray, List.set_cons_zero, List.set_cons_succ, i64_w, i32_w]
                 rfl
                refine pure_ (i := 20) (N := some 94) (v := ?_) (a' := ?_) #[true, true, true, true, true, true, true, true, true, true, true, true, true, true, true, true, false, true, true, true, true, false, false, false] rfl rfl (any_of HT_.out (by kernel_rfl)) (fun _ _ _ h => h) (Or.inl ⟨by rfl, ?_⟩) ?_ ?_
                rotate_left
                ·
                 intro w'
                 go_simp
                 with_reducible rfl
                rotate_left
                ·
                 simp only [Act.put, List.setIfInBounds_toArray, List.set_cons_zero, List.set_cons_succ, i64_w, i32_w]
                 rfl
                refine take_ (i := 16) (N := some 90) (v := ?_) (a' := ?_) #[true, true, true, true, true, true, true, true, true, true, true, true, true, true, true, true, true, true, true, true, true, false, false, false] rfl rfl (take_ofW HT_.out HW_.out (by kernel_rfl)) (fun _ _ _ h => h) (Or.inl ⟨by rfl, ?_⟩) hHeld ?_ ?_
                rotate_left
                ·
                 rintro w' ⟨s0, s1, s2, s3, s4, s5, s6, s7, s8, s9, s10, s11⟩
                 go_simp
                 with_reducible rfl
                rotate_left
                ·
                 simp only [Act.put, List.setIfInBounds_toArray, List.set_cons_zero, List.set_cons_succ, i64_w, i32_w]
                 rfl
                refine take_ (i := 21) (N := some 95) (v := ?_) (a' := ?_) #[true, true, true, true, true, true, true, true, true, true, true, true, true, true, true, true, true, true, true, true, true, true, false, false] rfl rfl (take_ofW HT_.out HW_.out (by kernel_rfl)) (fun _ _ _ h => h) (Or.inl ⟨by rfl, ?_⟩) hHeld ?_ ?_
                rotate_left
                ·
                 rintro w' ⟨s0, s1, s2, s3, s4, s5, s6, s7, s8, s9, s10, s11⟩
                 go_simp
                 with_reducible rfl
                rotate_left
                ·
                 simp only [Act.put, List.setIfInBounds_toArray, List.set_cons_zero, List.set_cons_succ, i64_w, i32_w]
                 rfl
                refine pure_ (i := 22) (N := some 96) (v := ?_) (a' := ?_) #[true, true, true, true, true, true, true, true, true, true, true, true, true, true, true, true, true, true, true, true, true, true, true, false] rfl rfl (any_of HT_.out (by kernel_rfl)) (fun _ _ _ h => h) (Or.inl ⟨by rfl, ?_⟩) ?_ ?_
                rotate_left
                ·
                 intro w'
                 go_simp
                 with_reducible rfl
                rotate_left
                ·
                 simp only [Act.put, List.setIfInBounds_toArray, List.set_cons_zero, List.set_cons_succ, i64_w, i32_w]
                 rfl
                refine pure_ (i := 23) (N := some 97) (v := ?_) (a' := ?_) #[true, true, true, true, true, true, true, true, true, true, true, true, true, true, true, true, true, true, true, true, true, true, true, true] rfl rfl (any_of HT_.out (by kernel_rfl)) (fun _ _ _ h => h) (Or.inl ⟨by rfl, ?_⟩) ?_ ?_
                rotate_left
                ·
                 intro w'
                 go_simp
                 with_reducible rfl
                rotate_left
                ·
                 simp only [Act.put, List.setIfInBounds_toArray, List.set_cons_zero, List.set_cons_succ, i64_w, i32_w]
                 rfl
                refine done_ (done_of HT_.out (by kernel_rfl)) ?_
                have p843 : 0 ≤ (x12_2 : Int) := of_decide_eq_true (by first | (with_reducible assumption) | assumption)
                have q843 : x12_2 < (t819.length : Int) := of_decide_eq_true (by first | (with_reducible assumption) | assumption)
                obtain ⟨ad843, e843, hx843_0, hx843_1, hx843_2⟩ := at_T61 (Kd.R_reads' HO_4.out).2.2 x12_2 p843 q843
                obtain rfl : ad839 = ad843 := (by injection e843)
                replace p843 := eq_true p843
                replace q843 := eq_true q843
                try go_wp2
                go_roundg k2
                case measure => have := HK1.out; have := HK2.out; omega
                case rel => exact ⟨(wrap64 (x11_2 + ((rd_T61 t819 x12_2).f2))), (wrap64 (x12_2 + 1)), (by first | rfl | (simp; done) | (simp [*]; done)), (by first | rfl | (simp; done) | (simp [*]; done)), H', ⟨by have := HK1.out; have := HK2.out; omega⟩, ⟨by (with_reducible repeat (first | apply Kd.R_alloc | apply Kd.R_drewN | apply Kd.R_drew)); exact HO_3.out⟩, ⟨by (with_reducible repeat (first | apply Kd.R_alloc | apply Kd.R_drewN | apply Kd.R_drew)); exact HO_4.out⟩, ⟨by (with_reducible repeat (first | apply Kd.R_alloc | apply Kd.R_drewN | apply Kd.R_drew)); exact HO_5.out⟩, ⟨by (with_reducible repeat (first | apply Kd.R_alloc | apply Kd.R_drewN | apply Kd.R_drew)); exact HO_6.out⟩, ⟨bb_⟩⟩
               ·
                rw [if_neg c29] at H
                have c29b0 : (((rd_T61 t819 x12_2).f1) == ((rd_T61 t819 x10_1).f1)) = false := beq_eq_false_iff_ne.mpr c29
                have c29b1 : (((rd_T61 t819 x12_2).f1) != ((rd_T61 t819 x10_1).f1)) = true := bne_iff_ne.mpr c29
                have H' := Aside0.mk H
                clear H
                try go_wp2
                have n0_ := Aside0.mk (Kd.R_drew HO_3.out)
                have n1_ := Aside0.mk (Kd.R_drew HO_4.out)
                have n2_ := Aside0.mk (Kd.R_drew HO_5.out)
                have n3_ := Aside0.mk (Kd.R_drew HO_6.out)
                have n4_ := Aside0.mk (below_drew1 HB.out)
                clear HO_3
                clear HO_4
                clear HO_5
                clear HO_6
                clear HB
                have HO_3 := n0_
                have HO_4 := n1_
                have HO_5 := n2_
                have HO_6 := n3_
                have HB := n4_
                clear n0_ n1_ n2_ n3_ n4_
                have p839 : 0 ≤ (x12_2 : Int) := of_decide_eq_true (by first | (with_reducible assumption) | assumption)
                have q839 : x12_2 < (t819.length : Int) := of_decide_eq_true (by first | (with_reducible assumption) | assumption)
                obtain ⟨ad839, e839, hx839_0, hx839_1, hx839_2⟩ := at_T61 (Kd.R_reads' HO_4.out).2.2 x12_2 p839 q839
                cases e839
                replace p839 := eq_true p839
                replace q839 := eq_true q839
                have p840 : 0 ≤ (x10_1 : Int) := of_decide_eq_true (by first | (with_reducible assumption) | assumption)
                have q840 : x10_1 < (t819.length : Int) := of_decide_eq_true (by first | (with_reducible assumption) | assumption)
                obtain ⟨ad840, e840, hx840_0, hx840_1, hx840_2⟩ := at_T61 (Kd.R_reads' HO_4.out).2.2 x10_1 p840 q840
                obtain rfl : ad839 = ad840 := (by injection e840)
                replace p840 := eq_true p840
                replace q840 := eq_true q840
                have p841 : 0 ≤ (x12_2 : Int) := of_decide_eq_true (by first | (with_reducible assumption) | assumption)
                have q841 : x12_2 < (t819.length : Int) := of_decide_eq_true (by first | (with_reducible assumption) | assumption)
                obtain ⟨ad841, e841, hx841_0, hx841_1, hx841_2⟩ := at_T61 (Kd.R_reads' HO_4.out).2.2 x12_2 p841 q841
                obtain rfl : ad839 = ad841 := (by injection e841)
                replace p841 := eq_true p841
                replace q841 := eq_true q841
                have p842 : 0 ≤ (x10_1 : Int) := of_decide_eq_true (by first | (with_reducible assumption) | assumption)
                have q842 : x10_1 < (t819.length : Int) := of_decide_eq_true (by first | (with_reducible assumption) | assumption)
                obtain ⟨ad842, e842, hx842_0, hx842_1, hx842_2⟩ := at_T61 (Kd.R_reads' HO_4.out).2.2 x10_1 p842 q842
                obtain rfl : ad839 = ad842 := (by injection e842)
                replace p842 := eq_true p842
                replace q842 := eq_true q842
                refine start_ (n := 24) (S := fun w' => w'.cell? (ad839.add ((x12_2).toNat * 3)) = some (.int .i64 ((rd_T61 t819 x12_2).f0)) ∧ w'.cell? ⟨(ad839.add ((x12_2).toNat * 3)).block, (ad839.add ((x12_2).toNat * 3)).off + 1, none⟩ = some (.int .i64 ((rd_T61 t819 x12_2).f1)) ∧ w'.cell? ⟨(ad839.add ((x12_2).toNat * 3)).block, (ad839.add ((x12_2).toNat * 3)).off + 2, none⟩ = some (.int .i64 ((rd_T61 t819 x12_2).f2)) ∧ w'.cell? (ad839.add ((x10_1).toNat * 3)) = some (.int .i64 ((rd_T61 t819 x10_1).f0)) ∧ w'.cell? ⟨(ad839.add ((x10_1).toNat * 3)).block, (ad839.add ((x10_1).toNat * 3)).off + 1, none⟩ = some (.int .i64 ((rd_T61 t819 x10_1).f1)) ∧ w'.cell? ⟨(ad839.add ((x10_1).toNat * 3)).block, (ad839.add ((x10_1).toNat * 3)).off + 2, none⟩ = some (.int .i64 ((rd_T61 t819 x10_1).f2)) ∧ w'.cell? (ad839.add ((x12_2).toNat * 3)) = some (.int .i64 ((rd_T61 t819 x12_2).f0)) ∧ w'.cell? ⟨(ad839.add ((x12_2).toNat * 3)).block, (ad839.add ((x12_2).toNat * 3)).off + 1, none⟩ = some (.int .i64 ((rd_T61 t819 x12_2).f1)) ∧ w'.cell? ⟨(ad839.add ((x12_2).toNat * 3)).block, (ad839.add ((x12_2).toNat * 3)).off + 2, none⟩ = some (.int .i64 ((rd_T61 t819 x12_2).f2)) ∧ w'.cell? (ad839.add ((x10_1).toNat * 3)) = some (.int .i64 ((rd_T61 t819 x10_1).f0)) ∧ w'.cell? ⟨(ad839.add ((x10_1).toNat * 3)).block, (ad839.add ((x10_1).toNat * 3)).off + 1, none⟩ = some (.int .i64 ((rd_T61 t819 x10_1).f1)) ∧ w'.cell? ⟨(ad839.add ((x10_1).toNat * 3)).block, (ad839.add ((x10_1).toNat * 3)).off + 2, none⟩ = some (.int .i64 ((rd_T61 t819 x10_1).f2))) (ds := []) #[false, false, false, false, false, false, false, false, false, false, false, false, false, false, false, false, false, false, false, false, false, false, false, false] (by kernel_rfl) rfl rfl ⟨hx839_0, hx839_1, hx839_2, hx840_0, hx840_1, hx840_2, hx841_0, hx841_1, hx841_2, hx842_0, hx842_1, hx842_2⟩ (fun hHeld => ?_); refine with_tabW laws_FnPost.tab19 laws_FnPost.bits19 (fun HT_ HW_ => ?_)
                generalize wr.drew = w31 at HO_3 HO_4 HO_5 HO_6 HB hx839_0 hx839_1 hx839_2 hx840_0 hx840_1 hx840_2 hx841_0 hx841_1 hx841_2 hx842_0 hx842_1 hx842_2 hHeld ⊢
                refine pure_ (i := 0) (N := some 74) (v := ?_) (a' := ?_) #[true, false, false, false, false, false, false, false, false, false, false, false, false, false, false, false, false, false, false, false, false, false, false, false] rfl rfl (any_of HT_.out (by kernel_rfl)) (fun _ _ _ h => h) (Or.inl ⟨by rfl, ?_⟩) ?_ ?_
                rotate_left
                ·
                 intro w'
                 go_simp
                 with_reducible rfl
                rotate_left
                ·
                 simp only [Act.put, List.setIfInBounds_toArray, List.set_cons_zero, List.set_cons_succ, i64_w, i32_w]
                 rfl
                refine pure_ (i := 1) (N := some 75) (v := ?_) (a' := ?_) #[true, true, false, false, false, false, false, false, false, false, false, false, false, false, false, false, false, false, false, false, false, false, false, false] rfl rfl (any_of HT_.out (by kernel_rfl)) (fun _ _ _ h => h) (Or.inl ⟨by rfl, ?_⟩) ?_ ?_
                rotate_left
                ·
                 intro w'
                 go_simp
                 with_reducible rfl
                rotate_left
                ·
                 simp only [Act.put, List.setIfInBounds_toArray, List.set_cons_zero, List.set_cons_succ, i64_w, i32_w]
                 rfl
                refine pure_ (i := 2) (N := some 76) (v := ?_) (a' := ?_) #[true, true, true, false, false, false, false, false, false, false, false, false, false, false, false, false, false, false, false, false, false, false, false, false] rfl rfl (any_of HT_.out (by kernel_rfl)) (fun _ _ _ h => h) (Or.inl ⟨by rfl, ?_⟩) ?_ ?_
                rotate_left
                ·
                 intro w'
                 go_simp
                 with_reducible rfl
                rotate_left
                ·
                 simp only [Act.put, List.setIfInBounds_toArray, List.set_cons_zero, List.set_cons_succ, i64_w, i32_w]
                 rfl
                refine pure_ (i := 3) (N := some 77) (v := ?_) (a' := ?_) #[true, true, true, true, false, false, false, false, false, false, false, false, false, false, false, false, false, false, false, false, false, false, false, false] rfl rfl (any_of HT_.out (by kernel_rfl)) (fun _ _ _ h => h) (Or.inl ⟨by rfl, ?_⟩) ?_ ?_
                rotate_left
                ·
                 intro w'
                 go_simp
                 with_reducible rfl
                rotate_left
                ·
                 simp only [Act.put, List.setIfInBounds_toArray, List.set_cons_zero, List.set_cons_succ, i64_w, i32_w]
                 rfl
                refine pure_ (i := 5) (N := some 79) (v := ?_) (a' := ?_) #[true, true, true, true, false, true, false, false, false, false, false, false, false, false, false, false, false, false, false, false, false, false, false, false] rfl rfl (any_of HT_.out (by kernel_rfl)) (fun _ _ _ h => h) (Or.inl ⟨by rfl, ?_⟩) ?_ ?_
                rotate_left
                ·
                 intro w'
                 go_simp
                 with_reducible rfl
                rotate_left
                ·
                 simp only [Act.put, List.setIfInBounds_toArray, List.set_cons_zero, List.set_cons_succ, i64_w, i32_w]
                 rfl
                refine pure_ (i := 6) (N := some 80) (v := ?_) (a' := ?_) #[true, true, true, true, false, true, true, false, false, false, false, false, false, false, false, false, false, false, false, false, false, false, false, false] rfl rfl (any_of HT_.out (by kernel_rfl)) (fun _ _ _ h => h) (Or.inl ⟨by rfl, ?_⟩) ?_ ?_
                rotate_left
                ·
                 intro w'
                 go_simp
                 with_reducible rfl
                rotate_left
                ·
                 simp only [Act.put, List.setIfInBounds_toArray, List.set_cons_zero, List.set_cons_succ, i64_w, i32_w]
                 rfl
                refine pure_ (i := 7) (N := some 81) (v := ?_) (a' := ?_) #[true, true, true, true, false, true, true, true, false, false, false, false, false, false, false, false, false, false, false, false, false, false, false, false] rfl rfl (any_of HT_.out (by kernel_rfl)) (fun _ _ _ h => h) (Or.inl ⟨by rfl, ?_⟩) ?_ ?_
                rotate_left
                ·
                 intro w'
                 go_simp
                 with_reducible rfl
                rotate_left
                ·
                 simp only [Act.put, List.setIfInBounds_toArray, List.set_cons_zero, List.set_cons_succ, i64_w, i32_w]
                 rfl
                refine pure_ (i := 8) (N := some 82) (v := ?_) (a' := ?_) #[true, true, true, true, false, true, true, true, true, false, false, false, false, false, false, false, false, false, false, false, false, false, false, false] rfl rfl (any_of HT_.out (by kernel_rfl)) (fun _ _ _ h => h) (Or.inl ⟨by rfl, ?_⟩) ?_ ?_
                rotate_left
                ·
                 intro w'
                 go_simp
                 with_reducible rfl
                rotate_left
                ·
                 simp only [Act.put, List.setIfInBounds_toArray, List.set_cons_zero, List.set_cons_succ, i64_w, i32_w]
                 rfl
                refine take_ (i := 4) (N := some 78) (v := ?_) (a' := ?_) #[true, true, true, true, true, true, true, true, true, false, false, false, false, false, false, false, false, false, false, false, false, false, false, false] rfl rfl (take_ofW HT_.out HW_.out (by kernel_rfl)) (fun _ _ _ h => h) (Or.inl ⟨by rfl, ?_⟩) hHeld ?_ ?_
                rotate_left
                ·
                 rintro w' ⟨s0, s1, s2, s3, s4, s5, s6, s7, s8, s9, s10, s11⟩
                 go_simp
                 with_reducible rfl
                rotate_left
                ·
                 simp only [Act.put, List.setIfInBounds_toArray, List.set_cons_zero, List.set_cons_succ, i64_w, i32_w]
                 rfl
                refine take_ (i := 9) (N := some 83) (v := ?_) (a' := ?_) #[true, true, true, true, true, true, true, true, true, true, false, false, false, false, false, false, false, false, false, false, false, false, false, false] rfl rfl (take_ofW HT_.out HW_.out (by kernel_rfl)) (fun _ _ _ h => h) (Or.inl ⟨by rfl, ?_⟩) hHeld ?_ ?_
                rotate_left
                ·
                 rintro w' ⟨s0, s1, s2, s3, s4, s5, s6, s7, s8, s9, s10, s11⟩
                 go_simp
                 with_reducible rfl
                rotate_left
                ·
                 simp only [Act.put, List.setIfInBounds_toArray, List.set_cons_zero, List.set_cons_succ, i64_w, i32_w]
                 rfl
                refine pure_ (i := 10) (N := some 84) (v := ?_) (a' := ?_) #[true, true, true, true, true, true, true, true, true, true, true, false, false, false, false, false, false, false, false, false, false, false, false, false] rfl rfl (any_of HT_.out (by kernel_rfl)) (fun _ _ _ h => h) (Or.inl ⟨by rfl, ?_⟩) ?_ ?_
                rotate_left
                ·
                 intro w'
                 go_simp
                 with_reducible rfl
                rotate_left
                ·
                 simp only [Act.put, List.setIfInBounds_toArray, List.set_cons_zero, List.set_cons_succ, i64_w, i32_w]
                 rfl
                refine pure_ (i := 11) (N := some 85) (v := ?_) (a' := ?_) #[true, true, true, true, true, true, true, true, true, true, true, true, false, false, false, false, false, false, false, false, false, false, false, false] rfl rfl (any_of HT_.out (by kernel_rfl)) (fun _ _ _ h => h) (Or.inl ⟨by rfl, ?_⟩) ?_ ?_
                rotate_left
                ·
                 intro w'
                 go_simp
                 with_reducible rfl
                rotate_left
                ·
                 simp only [Act.put, List.setIfInBounds_toArray, List.set_cons_zero, List.set_cons_succ, i64_w, i32_w]
                 rfl
                refine pure_ (i := 12) (N := some 86) (v := ?_) (a' := ?_) #[true, true, true, true, true, true, true, true, true, true, true, true, true, false, false, false, false, false, false, false, false, false, false, false] rfl rfl (any_of HT_.out (by kernel_rfl)) (fun _ _ _ h => h) (Or.inl ⟨by rfl, ?_⟩) ?_ ?_
                rotate_left
                ·
                 intro w'
                 go_simp
                 with_reducible rfl
                rotate_left
                ·
                 simp only [Act.put, List.setIfInBounds_toArray, List.set_cons_zero, List.set_cons_succ, i64_w, i32_w]
                 rfl
                refine pure_ (i := 13) (N := some 87) (v := ?_) (a' := ?_) #[true, true, true, true, true, true, true, true, true, true, true, true, true, true, false, false, false, false, false, false, false, false, false, false] rfl rfl (any_of HT_.out (by kernel_rfl)) (fun _ _ _ h => h) (Or.inl ⟨by rfl, ?_⟩) ?_ ?_
                rotate_left
                ·
                 intro w'
                 go_simp
                 with_reducible rfl
                rotate_left
                ·
                 simp only [Act.put, List.setIfInBounds_toArray, List.set_cons_zero, List.set_cons_succ, i64_w, i32_w]
                 rfl
                refine pure_ (i := 14) (N := some 88) (v := ?_) (a' := ?_) #[true, true, true, true, true, true, true, true, true, true, true, true, true, true, true, false, false, false, false, false, false, false, false, false] rfl rfl (any_of HT_.out (by kernel_rfl)) (fun _ _ _ h => h) (Or.inl ⟨by rfl, ?_⟩) ?_ ?_
                rotate_left
                ·
                 intro w'
                 go_simp
                 with_reducible rfl
                rotate_left
                ·
                 simp only [Act.put, List.setIfInBounds_toArray, List.set_cons_zero, List.set_cons_succ, i64_w, i32_w]
                 rfl
                refine pure_ (i := 15) (N := some 89) (v := ?_) (a' := ?_) #[true, true, true, true, true, true, true, true, true, true, true, true, true, true, true, true, false, false, false, false, false, false, false, false] rfl rfl (any_of HT_.out (by kernel_rfl)) (fun _ _ _ h => h) (Or.inl ⟨by rfl, ?_⟩) ?_ ?_
                rotate_left
                ·
                 intro w'
                 go_simp
                 with_reducible rfl
                rotate_left
                ·
                 simp only [Act.put, List.setIfInBounds_toArray, List.set_cons_zero, List.set_cons_succ, i64_w, i32_w]
                 rfl
                refine pure_ (i := 17) (N := some 91) (v := ?_) (a' := ?_) #[true, true, true, true, true, true, true, true, true, true, true, true, true, true, true, true, false, true, false, false, false, false, false, false] rfl rfl (any_of HT_.out (by kernel_rfl)) (fun _ _ _ h => h) (Or.inl ⟨by rfl, ?_⟩) ?_ ?_
                rotate_left
                ·
                 intro w'
                 go_simp
                 with_reducible rfl
                rotate_left
                ·
                 simp only [Act.put, List.setIfInBounds_toArray, List.set_cons_zero, List.set_cons_succ, i64_w, i32_w]
                 rfl
                refine pure_ (i := 18) (N := some 92) (v := ?_) (a' := ?_) #[true, true, true, true, true, true, true, true, true, true, true, true, true, true, true, true, false, true, true, false, false, false, false, false] rfl rfl (any_of HT_.out (by kernel_rfl)) (fun _ _ _ h => h) (Or.inl ⟨by rfl, ?_⟩) ?_ ?_
                rotate_left
                ·
                 intro w'
                 go_simp
                 with_reducible rfl
                rotate_left
                ·
                 simp only [Act.put, List.setIfInBounds_toArray, List.set_cons_zero, List.set_cons_succ, i64_w, i32_w]
                 rfl
                refine pure_ (i := 19) (N := some 93) (v := ?_) (a' := ?_) #[true, true, true, true, true, true, true, true, true, true, true, true, true, true, true, true, false, true, true, true, false, false, false, false] rfl rfl (any_of HT_.out (by kernel_rfl)) (fun _ _ _ h => h) (Or.inl ⟨by rfl, ?_⟩) ?_ ?_
                rotate_left
                ·
                 intro w'
                 go_simp
                 with_reducible rfl
                rotate_left
                ·
                 simp only [Act.put, List.setIfInBounds_toArray, List.set_cons_zero, List.set_cons_succ, i64_w, i32_w]
                 rfl
                refine pure_ (i := 20) (N := some 94) (v := ?_) (a' := ?_) #[true, true, true, true, true, true, true, true, true, true, true, true, true, true, true, true, false, true, true, true, true, false, false, false] rfl rfl (any_of HT_.out (by kernel_rfl)) (fun _ _ _ h => h) (Or.inl ⟨by rfl, ?_⟩) ?_ ?_
                rotate_left
                ·
                 intro w'
                 go_simp
                 with_reducible rfl
                rotate_left
                ·
                 simp only [Act.put, List.setIfInBounds_toArray, List.set_cons_zero, List.set_cons_succ, i64_w, i32_w]
                 rfl
                refine take_ (i := 16) (N := some 90) (v := ?_) (a' := ?_) #[true, true, true, true, true, true, true, true, true, true, true, true, true, true, true, true, true, true, true, true, true, false, false, false] rfl rfl (take_ofW HT_.out HW_.out (by kernel_rfl)) (fun _ _ _ h => h) (Or.inl ⟨by rfl, ?_⟩) hHeld ?_ ?_
                rotate_left
                ·
                 rintro w' ⟨s0, s1, s2, s3, s4, s5, s6, s7, s8, s9, s10, s11⟩
                 go_simp
                 with_reducible rfl
                rotate_left
                ·
                 simp only [Act.put, List.setIfInBounds_toArray, List.set_cons_zero, List.set_cons_succ, i64_w, i32_w]
                 rfl
                refine take_ (i := 21) (N := some 95) (v := ?_) (a' := ?_) #[true, true, true, true, true, true, true, true, true, true, true, true, true, true, true, true, true, true, true, true, true, true, false, false] rfl rfl (take_ofW HT_.out HW_.out (by kernel_rfl)) (fun _ _ _ h => h) (Or.inl ⟨by rfl, ?_⟩) hHeld ?_ ?_
                rotate_left
                ·
                 rintro w' ⟨s0, s1, s2, s3, s4, s5, s6, s7, s8, s9, s10, s11⟩
                 go_simp
                 with_reducible rfl
                rotate_left
                ·
                 simp only [Act.put, List.setIfInBounds_toArray, List.set_cons_zero, List.set_cons_succ, i64_w, i32_w]
                 rfl
                refine pure_ (i := 22) (N := some 96) (v := ?_) (a' := ?_) #[true, true, true, true, true, true, true, true, true, true, true, true, true, true, true, true, true, true, true, true, true, true, true, false] rfl rfl (any_of HT_.out (by kernel_rfl)) (fun _ _ _ h => h) (Or.inl ⟨by rfl, ?_⟩) ?_ ?_
                rotate_left
                ·
                 intro w'
                 go_simp
                 with_reducible rfl
                rotate_left
                ·
                 simp only [Act.put, List.setIfInBounds_toArray, List.set_cons_zero, List.set_cons_succ, i64_w, i32_w]
                 rfl
                refine pure_ (i := 23) (N := some 97) (v := ?_) (a' := ?_) #[true, true, true, true, true, true, true, true, true, true, true, true, true, true, true, true, true, true, true, true, true, true, true, true] rfl rfl (any_of HT_.out (by kernel_rfl)) (fun _ _ _ h => h) (Or.inl ⟨by rfl, ?_⟩) ?_ ?_
                rotate_left
                ·
                 intro w'
                 go_simp
                 with_reducible rfl
                rotate_left
                ·
                 simp only [Act.put, List.setIfInBounds_toArray, List.set_cons_zero, List.set_cons_succ, i64_w, i32_w]
                 rfl
                refine done_ (done_of HT_.out (by kernel_rfl)) ?_
                try go_wp2
                go_roundg k2
                case measure => have := HK1.out; have := HK2.out; omega
                case rel => exact ⟨(x11_2), (wrap64 (x12_2 + 1)), (by first | rfl | (simp; done) | (simp [*]; done)), (by first | rfl | (simp; done) | (simp [*]; done)), H', ⟨by have := HK1.out; have := HK2.out; omega⟩, ⟨by (with_reducible repeat (first | apply Kd.R_alloc | apply Kd.R_drewN | apply Kd.R_drew)); exact HO_3.out⟩, ⟨by (with_reducible repeat (first | apply Kd.R_alloc | apply Kd.R_drewN | apply Kd.R_drew)); exact HO_4.out⟩, ⟨by (with_reducible repeat (first | apply Kd.R_alloc | apply Kd.R_drewN | apply Kd.R_drew)); exact HO_5.out⟩, ⟨by (with_reducible repeat (first | apply Kd.R_alloc | apply Kd.R_drewN | apply Kd.R_drew)); exact HO_6.out⟩, ⟨bb_⟩⟩
              ·
               rw [if_neg c28] at H
               have c28b0 : (((rd_T61 t819 x12_2).f0) == ((rd_T61 t819 x10_1).f0)) = false := beq_eq_false_iff_ne.mpr c28
               have c28b1 : (((rd_T61 t819 x12_2).f0) != ((rd_T61 t819 x10_1).f0)) = true := bne_iff_ne.mpr c28
               have H' := Aside0.mk H
               clear H
               try go_wp2
               have n0_ := Aside0.mk (Kd.R_drew HO_3.out)
               have n1_ := Aside0.mk (Kd.R_drew HO_4.out)
               have n2_ := Aside0.mk (Kd.R_drew HO_5.out)
               have n3_ := Aside0.mk (Kd.R_drew HO_6.out)
               have n4_ := Aside0.mk (below_drew1 HB.out)
               clear HO_3
               clear HO_4
               clear HO_5
               clear HO_6
               clear HB
               have HO_3 := n0_
               have HO_4 := n1_
               have HO_5 := n2_
               have HO_6 := n3_
               have HB := n4_
               clear n0_ n1_ n2_ n3_ n4_
               have p839 : 0 ≤ (x12_2 : Int) := of_decide_eq_true (by first | (with_reducible assumption) | assumption)
               have q839 : x12_2 < (t819.length : Int) := of_decide_eq_true (by first | (with_reducible assumption) | assumption)
               obtain ⟨ad839, e839, hx839_0, hx839_1, hx839_2⟩ := at_T61 (Kd.R_reads' HO_4.out).2.2 x12_2 p839 q839
               cases e839
               replace p839 := eq_true p839
               replace q839 := eq_true q839
               have p840 : 0 ≤ (x10_1 : Int) := of_decide_eq_true (by first | (with_reducible assumption) | assumption)
               have q840 : x10_1 < (t819.length : Int) := of_decide_eq_true (by first | (with_reducible assumption) | assumption)
               obtain ⟨ad840, e840, hx840_0, hx840_1, hx840_2⟩ := at_T61 (Kd.R_reads' HO_4.out).2.2 x10_1 p840 q840
               obtain rfl : ad839 = ad840 := (by injection e840)
               replace p840 := eq_true p840
               replace q840 := eq_true q840
               refine start_ (n := 24) (S := fun w' => w'.cell? (ad839.add ((x12_2).toNat * 3)) = some (.int .i64 ((rd_T61 t819 x12_2).f0)) ∧ w'.cell? ⟨(ad839.add ((x12_2).toNat * 3)).block, (ad839.add ((x12_2).toNat * 3)).off + 1, none⟩ = some (.int .i64 ((rd_T61 t819 x12_2).f1)) ∧ w'.cell? ⟨(ad839.add ((x12_2).toNat * 3)).block, (ad839.add ((x12_2).toNat * 3)).off + 2, none⟩ = some (.int .i64 ((rd_T61 t819 x12_2).f2)) ∧ w'.cell? (ad839.add ((x10_1).toNat * 3)) = some (.int .i64 ((rd_T61 t819 x10_1).f0)) ∧ w'.cell? ⟨(ad839.add ((x10_1).toNat * 3)).block, (ad839.add ((x10_1).toNat * 3)).off + 1, none⟩ = some (.int .i64 ((rd_T61 t819 x10_1).f1)) ∧ w'.cell? ⟨(ad839.add ((x10_1).toNat * 3)).block, (ad839.add ((x10_1).toNat * 3)).off + 2, none⟩ = some (.int .i64 ((rd_T61 t819 x10_1).f2))) (ds := []) #[false, false, false, false, false, false, false, false, false, false, false, false, false, false, false, false, false, false, false, false, false, false, false, false] (by kernel_rfl) rfl rfl ⟨hx839_0, hx839_1, hx839_2, hx840_0, hx840_1, hx840_2⟩ (fun hHeld => ?_); refine with_tabW laws_FnPost.tab19 laws_FnPost.bits19 (fun HT_ HW_ => ?_)
               generalize wr.drew = w32 at HO_3 HO_4 HO_5 HO_6 HB hx839_0 hx839_1 hx839_2 hx840_0 hx840_1 hx840_2 hHeld ⊢
               refine pure_ (i := 0) (N := some 74) (v := ?_) (a' := ?_) #[true, false, false, false, false, false, false, false, false, false, false, false, false, false, false, false, false, false, false, false, false, false, false, false] rfl rfl (any_of HT_.out (by kernel_rfl)) (fun _ _ _ h => h) (Or.inl ⟨by rfl, ?_⟩) ?_ ?_
               rotate_left
               ·
                intro w'
                go_simp
                with_reducible rfl
               rotate_left
               ·
                simp only [Act.put, List.setIfInBounds_toArray, List.set_cons_zero, List.set_cons_succ, i64_w, i32_w]
                rfl
               refine pure_ (i := 1) (N := some 75) (v := ?_) (a' := ?_) #[true, true, false, false, false, false, false, false, false, false, false, false, false, false, false, false, false, false, false, false, false, false, false, false] rfl rfl (any_of HT_.out (by kernel_rfl)) (fun _ _ _ h => h) (Or.inl ⟨by rfl, ?_⟩) ?_ ?_
               rotate_left
               ·
                intro w'
                go_simp
                with_reducible rfl
               rotate_left
               ·
                simp only [Act.put, List.setIfInBounds_toArray, List.set_cons_zero, List.set_cons_succ, i64_w, i32_w]
                rfl
               refine pure_ (i := 2) (N := some 76) (v := ?_) (a' := ?_) #[true, true, true, false, false, false, false, false, false, false, false, false, false, false, false, false, false, false, false, false, false, false, false, false] rfl rfl (any_of HT_.out (by kernel_rfl)) (fun _ _ _ h => h) (Or.inl ⟨by rfl, ?_⟩) ?_ ?_
               rotate_left
               ·
                intro w'
                go_simp
                with_reducible rfl
               rotate_left
               ·
                simp only [Act.put, List.setIfInBounds_toArray, List.set_cons_zero, List.set_cons_succ, i64_w, i32_w]
                rfl
               refine pure_ (i := 3) (N := some 77) (v := ?_) (a' := ?_) #[true, true, true, true, false, false, false, false, false, false, false, false, false, false, false, false, false, false, false, false, false, false, false, false] rfl rfl (any_of HT_.out (by kernel_rfl)) (fun _ _ _ h => h) (Or.inl ⟨by rfl, ?_⟩) ?_ ?_
               rotate_left
               ·
                intro w'
                go_simp
                with_reducible rfl
               rotate_left
               ·
                simp only [Act.put, List.setIfInBounds_toArray, List.set_cons_zero, List.set_cons_succ, i64_w, i32_w]
                rfl
               refine pure_ (i := 5) (N := some 79) (v := ?_) (a' := ?_) #[true, true, true, true, false, true, false, false, false, false, false, false, false, false, false, false, false, false, false, false, false, false, false, false] rfl rfl (any_of HT_.out (by kernel_rfl)) (fun _ _ _ h => h) (Or.inl ⟨by rfl, ?_⟩) ?_ ?_
               rotate_left
               ·
                intro w'
                go_simp
                with_reducible rfl
               rotate_left
               ·
                simp only [Act.put, List.setIfInBounds_toArray, List.set_cons_zero, List.set_cons_succ, i64_w, i32_w]
                rfl
               refine pure_ (i := 6) (N := some 80) (v := ?_) (a' := ?_) #[true, true, true, true, false, true, true, false, false, false, false, false, false, false, false, false, false, false, false, false, false, false, false, false] rfl rfl (any_of HT_.out (by kernel_rfl)) (fun _ _ _ h => h) (Or.inl ⟨by rfl, ?_⟩) ?_ ?_
               rotate_left
               ·
                intro w'
                go_simp
                with_reducible rfl
               rotate_left
               ·
                simp only [Act.put, List.setIfInBounds_toArray, List.set_cons_zero, List.set_cons_succ, i64_w, i32_w]
                rfl
               refine pure_ (i := 7) (N := some 81) (v := ?_) (a' := ?_) #[true, true, true, true, false, true, true, true, false, false, false, false, false, false, false, false, false, false, false, false, false, false, false, false] rfl rfl (any_of HT_.out (by kernel_rfl)) (fun _ _ _ h => h) (Or.inl ⟨by rfl, ?_⟩) ?_ ?_
               rotate_left
               ·
                intro w'
                go_simp
                with_reducible rfl
               rotate_left
               ·
                simp only [Act.put, List.setIfInBounds_toArray, List.set_cons_zero, List.set_cons_succ, i64_w, i32_w]
                rfl
               refine pure_ (i := 8) (N := some 82) (v := ?_) (a' := ?_) #[true, true, true, true, false, true, true, true, true, false, false, false, false, false, false, false, false, false, false, false, false, false, false, false] rfl rfl (any_of HT_.out (by kernel_rfl)) (fun _ _ _ h => h) (Or.inl ⟨by rfl, ?_⟩) ?_ ?_
               rotate_left
               ·
                intro w'
                go_simp
                with_reducible rfl
               rotate_left
               ·
                simp only [Act.put, List.setIfInBounds_toArray, List.set_cons_zero, List.set_cons_succ, i64_w, i32_w]
                rfl
               refine take_ (i := 4) (N := some 78) (v := ?_) (a' := ?_) #[true, true, true, true, true, true, true, true, true, false, false, false, false, false, false, false, false, false, false, false, false, false, false, false] rfl rfl (take_ofW HT_.out HW_.out (by kernel_rfl)) (fun _ _ _ h => h) (Or.inl ⟨by rfl, ?_⟩) hHeld ?_ ?_
               rotate_left
               ·
                rintro w' ⟨s0, s1, s2, s3, s4, s5⟩
                go_simp
                with_reducible rfl
               rotate_left
               ·
                simp only [Act.put, List.setIfInBounds_toArray, List.set_cons_zero, List.set_cons_succ, i64_w, i32_w]
                rfl
               refine take_ (i := 9) (N := some 83) (v := ?_) (a' := ?_) #[true, true, true, true, true, true, true, true, true, true, false, false, false, false, false, false, false, false, false, false, false, false, false, false] rfl rfl (take_ofW HT_.out HW_.out (by kernel_rfl)) (fun _ _ _ h => h) (Or.inl ⟨by rfl, ?_⟩) hHeld ?_ ?_
               rotate_left
               ·
                rintro w' ⟨s0, s1, s2, s3, s4, s5⟩
                go_simp
                with_reducible rfl
               rotate_left
               ·
                simp only [Act.put, List.setIfInBounds_toArray, List.set_cons_zero, List.set_cons_succ, i64_w, i32_w]
                rfl
               refine pure_ (i := 10) (N := some 84) (v := ?_) (a' := ?_) #[true, true, true, true, true, true, true, true, true, true, true, false, false, false, false, false, false, false, false, false, false, false, false, false] rfl rfl (any_of HT_.out (by kernel_rfl)) (fun _ _ _ h => h) (Or.inl ⟨by rfl, ?_⟩) ?_ ?_
               rotate_left
               ·
                intro w'
                go_simp
                with_reducible rfl
               rotate_left
               ·
                simp only [Act.put, List.setIfInBounds_toArray, List.set_cons_zero, List.set_cons_succ, i64_w, i32_w]
                rfl
               refine pure_ (i := 11) (N := some 85) (v := ?_) (a' := ?_) #[true, true, true, true, true, true, true, true, true, true, true, true, false, false, false, false, false, false, false, false, false, false, false, false] rfl rfl (any_of HT_.out (by kernel_rfl)) (fun _ _ _ h => h) (Or.inl ⟨by rfl, ?_⟩) ?_ ?_
               rotate_left
               ·
                intro w'
                go_simp
                with_reducible rfl
               rotate_left
               ·
                simp only [Act.put, List.setIfInBounds_toArray, List.set_cons_zero, List.set_cons_succ, i64_w, i32_w]
                rfl
               refine pure_ (i := 12) (N := some 86) (v := undef) (a' := ?_) #[true, true, true, true, true, true, true, true, true, true, true, true, true, false, false, false, false, false, false, false, false, false, false, false] rfl rfl (any_of HT_.out (by kernel_rfl)) (fun _ _ _ h => h) (Or.inr ⟨by rfl, rfl⟩) ?_ ?_
               rotate_left
               ·
                simp only [Act.put, List.setIfInBounds_toArray, List.set_cons_zero, List.set_cons_succ, i64_w, i32_w]
                rfl
               refine pure_ (i := 13) (N := some 87) (v := undef) (a' := ?_) #[true, true, true, true, true, true, true, true, true, true, true, true, true, true, false, false, false, false, false, false, false, false, false, false] rfl rfl (any_of HT_.out (by kernel_rfl)) (fun _ _ _ h => h) (Or.inr ⟨by rfl, rfl⟩) ?_ ?_
               rotate_left
               ·
                simp only [Act.put, List.setIfInBounds_toArray, List.set_cons_zero, List.set_cons_succ, i64_w, i32_w]
                rfl
               refine pure_ (i := 14) (N := some 88) (v := undef) (a' := ?_) #[true, true, true, true, true, true, true, true, true, true, true, true, true, true, true, false, false, false, false, false, false, false, false, false] rfl rfl (any_of HT_.out (by kernel_rfl)) (fun _ _ _ h => h) (Or.inr ⟨by rfl, rfl⟩) ?_ ?_
               rotate_left
               ·
                simp only [Act.put, List.setIfInBounds_toArray, List.set_cons_zero, List.set_cons_succ, i64_w, i32_w]
                rfl
               refine pure_ (i := 15) (N := some 89) (v := undef) (a' := ?_) #[true, true, true, true, true, true, true, true, true, true, true, true, true, true, true, true, false, false, false, false, false, false, false, false] rfl rfl (any_of HT_.out (by kernel_rfl)) (fun _ _ _ h => h) (Or.inr ⟨by rfl, rfl⟩) ?_ ?_
               rotate_left
               ·
                simp only [Act.put, List.setIfInBounds_toArray, List.set_cons_zero, List.set_cons_succ, i64_w, i32_w]
                rfl
               refine pure_ (i := 16) (N := some 90) (v := undef) (a' := ?_) #[true, true, true, true, true, true, true, true, true, true, true, true, true, true, true, true, true, false, false, false, false, false, false, false] rfl rfl (any_of HT_.out (by kernel_rfl)) (fun _ _ _ h => h) (Or.inr ⟨by rfl, rfl⟩) ?_ ?_
               rotate_left
               ·
                simp only [Act.put, List.setIfInBounds_toArray, List.set_cons_zero, List.set_cons_succ, i64_w, i32_w]
                rfl
               refine pure_ (i := 17) (N := some 91) (v := undef) (a' := ?_) #[true, true, true, true, true, true, true, true, true, true, true, true, true, true, true, true, true, true, false, false, false, false, false, false] rfl rfl (any_of HT_.out (by kernel_rfl)) (fun _ _ _ h => h) (Or.inr ⟨by rfl, rfl⟩) ?_ ?_
               rotate_left
               ·
                simp only [Act.put, List.setIfInBounds_toArray, List.set_cons_zero, List.set_cons_succ, i64_w, i32_w]
                rfl
               refine pure_ (i := 18) (N := some 92) (v := undef) (a' := ?_) #[true, true, true, true, true, true, true, true, true, true, true, true, true, true, true, true, true, true, true, false, false, false, false, false] rfl rfl (any_of HT_.out (by kernel_rfl)) (fun _ _ _ h => h) (Or.inr ⟨by rfl, rfl⟩) ?_ ?_
               rotate_left
               ·
                simp only [Act.put, List.setIfInBounds_toArray, List.set_cons_zero, List.set_cons_succ, i64_w, i32_w]
                rfl
               refine pure_ (i := 19) (N := some 93) (v := undef) (a' := ?_) #[true, true, true, true, true, true, true, true, true, true, true, true, true, true, true, true, true, true, true, true, false, false, false, false] rfl rfl (any_of HT_.out (by kernel_rfl)) (fun _ _ _ h => h) (Or.inr ⟨by rfl, rfl⟩) ?_ ?_
               rotate_left
               ·
                simp only [Act.put, List.setIfInBounds_toArray, List.set_cons_zero, List.set_cons_succ, i64_w, i32_w]
                rfl
               refine pure_ (i := 20) (N := some 94) (v := undef) (a' := ?_) #[true, true, true, true, true, true, true, true, true, true, true, true, true, true, true, true, true, true, true, true, true, false, false, false] rfl rfl (any_of HT_.out (by kernel_rfl)) (fun _ _ _ h => h) (Or.inr ⟨by rfl, rfl⟩) ?_ ?_
               rotate_left
               ·
                simp only [Act.put, List.setIfInBounds_toArray, List.set_cons_zero, List.set_cons_succ, i64_w, i32_w]
                rfl
               refine pure_ (i := 21) (N := some 95) (v := undef) (a' := ?_) #[true, true, true, true, true, true, true, true, true, true, true, true, true, true, true, true, true, true, true, true, true, true, false, false] rfl rfl (any_of HT_.out (by kernel_rfl)) (fun _ _ _ h => h) (Or.inr ⟨by rfl, rfl⟩) ?_ ?_
               rotate_left
               ·
                simp only [Act.put, List.setIfInBounds_toArray, List.set_cons_zero, List.set_cons_succ, i64_w, i32_w]
                rfl
               refine pure_ (i := 22) (N := some 96) (v := undef) (a' := ?_) #[true, true, true, true, true, true, true, true, true, true, true, true, true, true, true, true, true, true, true, true, true, true, true, false] rfl rfl (any_of HT_.out (by kernel_rfl)) (fun _ _ _ h => h) (Or.inr ⟨by rfl, rfl⟩) ?_ ?_
               rotate_left
               ·
                simp only [Act.put, List.setIfInBounds_toArray, List.set_cons_zero, List.set_cons_succ, i64_w, i32_w]
                rfl
               refine pure_ (i := 23) (N := some 97) (v := ?_) (a' := ?_) #[true, true, true, true, true, true, true, true, true, true, true, true, true, true, true, true, true, true, true, true, true, true, true, true] rfl rfl (any_of HT_.out (by kernel_rfl)) (fun _ _ _ h => h) (Or.inl ⟨by rfl, ?_⟩) ?_ ?_
               rotate_left
               ·
                intro w'
                go_simp
                with_reducible rfl
               rotate_left
               ·
                simp only [Act.put, List.setIfInBounds_toArray, List.set_cons_zero, List.set_cons_succ, i64_w, i32_w]
                rfl
               refine done_ (done_of HT_.out (by kernel_rfl)) ?_
               try go_wp2
               go_roundg k2
               case measure => have := HK1.out; have := HK2.out; omega
               case rel => exact ⟨(x11_2), (wrap64 (x12_2 + 1)), (by first | rfl | (simp; done) | (simp [*]; done)), (by first | rfl | (simp; done) | (simp [*]; done)), H', ⟨by have := HK1.out; have := HK2.out; omega⟩, ⟨by (with_reducible repeat (first | apply Kd.R_alloc | apply Kd.R_drewN | apply Kd.R_drew)); exact HO_3.out⟩, ⟨by (with_reducible repeat (first | apply Kd.R_alloc | apply Kd.R_drewN | apply Kd.R_drew)); exact HO_4.out⟩, ⟨by (with_reducible repeat (first | apply Kd.R_alloc | apply Kd.R_drewN | apply Kd.R_drew)); exact HO_5.out⟩, ⟨by (with_reducible repeat (first | apply Kd.R_alloc | apply Kd.R_drewN | apply Kd.R_drew)); exact HO_6.out⟩, ⟨bb_⟩⟩
             ·
              rw [if_neg c27] at H
              exact absurd H (by simp)
            ·
             rw [if_neg c26] at H
             exact absurd H (by simp)
           ·
            rw [if_neg c25] at H
            exact absurd H (by simp)
          ·
           rw [if_neg c24] at H
           have c24b0 : decide (x12_2 < (t819.length : Int)) = false := decide_eq_false c24
           clear c24
           by_cases c33 : 0 ≤ x10_1
           ·
            rw [if_pos c33] at H
            have c33b0 : decide (0 ≤ x10_1) = true := decide_eq_true c33
            clear c33
            by_cases c34 : x10_1 < (t819.length : Int)
            ·
             rw [if_pos c34] at H
             have c34b0 : decide (x10_1 < (t819.length : Int)) = true := decide_eq_true c34
             clear c34
             replace H := Option.bind_eq_some_iff.mp H
             obtain ⟨t846, A350, H⟩ := H
             replace H : ((impl_BalOf.f k2 t827 ((rd_T61 t819 x10_1).f0) ((rd_T61 t819 x10_1).f1)).bind fun t849 => (if t849 = (wrap64 (t846 + x11_2)) then (if t849 < 0 then ((laws_within.f k2 t820 ((rd_T61 t819 x10_1).f0)).bind fun t851 => (laws_FnPost.j2 k2 t818 t819 t820 t827 x10_1 (!t851))) else (laws_FnPost.j2 k2 t818 t819 t820 t827 x10_1 false)) else (none))) = some r := H
             have A35 := Aside0.mk A350
             clear A350
             replace H := Option.bind_eq_some_iff.mp H
             obtain ⟨t849, A360, H⟩ := H
             replace H : (if t849 = (wrap64 (t846 + x11_2)) then (if t849 < 0 then ((laws_within.f k2 t820 ((rd_T61 t819 x10_1).f0)).bind fun t851 => (laws_FnPost.j2 k2 t818 t819 t820 t827 x10_1 (!t851))) else (laws_FnPost.j2 k2 t818 t819 t820 t827 x10_1 false)) else (none)) = some r := H
             have A36 := Aside0.mk A360
             clear A360
             have HC37 := Aside0.mk H
             clear H
             try go_wp2
             have n0_ := Aside0.mk (Kd.R_drew HO_3.out)
             have n1_ := Aside0.mk (Kd.R_drew HO_4.out)
             have n2_ := Aside0.mk (Kd.R_drew HO_5.out)
             have n3_ := Aside0.mk (Kd.R_drew HO_6.out)
             have n4_ := Aside0.mk (below_drew1 HB.out)
             clear HO_3
             clear HO_4
             clear HO_5
             clear HO_6
             clear HB
             have HO_3 := n0_
             have HO_4 := n1_
             have HO_5 := n2_
             have HO_6 := n3_
             have HB := n4_
             clear n0_ n1_ n2_ n3_ n4_
             have p844 : 0 ≤ (x10_1 : Int) := of_decide_eq_true (by first | (with_reducible assumption) | assumption)
             have q844 : x10_1 < (t819.length : Int) := of_decide_eq_true (by first | (with_reducible assumption) | assumption)
             obtain ⟨ad844, e844, hx844_0, hx844_1, hx844_2⟩ := at_T61 (Kd.R_reads' HO_4.out).2.2 x10_1 p844 q844
             cases e844
             replace p844 := eq_true p844
             replace q844 := eq_true q844
             have p845 : 0 ≤ (x10_1 : Int) := of_decide_eq_true (by first | (with_reducible assumption) | assumption)
             have q845 : x10_1 < (t819.length : Int) := of_decide_eq_true (by first | (with_reducible assumption) | assumption)
             obtain ⟨ad845, e845, hx845_0, hx845_1, hx845_2⟩ := at_T61 (Kd.R_reads' HO_4.out).2.2 x10_1 p845 q845
             obtain rfl : ad844 = ad845 := (by injection e845)
             replace p845 := eq_true p845
             replace q845 := eq_true q845
             have p847 : 0 ≤ (x10_1 : Int) := of_decide_eq_true (by first | (with_reducible assumption) | assumption)
             have q847 : x10_1 < (t819.length : Int) := of_decide_eq_true (by first | (with_reducible assumption) | assumption)
             obtain ⟨ad847, e847, hx847_0, hx847_1, hx847_2⟩ := at_T61 (Kd.R_reads' HO_4.out).2.2 x10_1 p847 q847
             obtain rfl : ad844 = ad847 := (by injection e847)
             replace p847 := eq_true p847
             replace q847 := eq_true q847
             have p848 : 0 ≤ (x10_1 : Int) := of_decide_eq_true (by first | (with_reducible assumption) | assumption)
             have q848 : x10_1 < (t819.length : Int) := of_decide_eq_true (by first | (with_reducible assumption) | assumption)
             obtain ⟨ad848, e848, hx848_0, hx848_1, hx848_2⟩ := at_T61 (Kd.R_reads' HO_4.out).2.2 x10_1 p848 q848
             obtain rfl : ad844 = ad848 := (by injection e848)
             replace p848 := eq_true p848
             replace q848 := eq_true q848
             refine start_ (n := 26) (S := fun w' => w'.cell? (ad844.add ((x10_1).toNat * 3)) = some (.int .i64 ((rd_T61 t819 x10_1).f0)) ∧ w'.cell? ⟨(ad844.add ((x10_1).toNat * 3)).block, (ad844.add ((x10_1).toNat * 3)).off + 1, none⟩ = some (.int .i64 ((rd_T61 t819 x10_1).f1)) ∧ w'.cell? ⟨(ad844.add ((x10_1).toNat * 3)).block, (ad844.add ((x10_1).toNat * 3)).off + 2, none⟩ = some (.int .i64 ((rd_T61 t819 x10_1).f2)) ∧ w'.cell? (ad844.add ((x10_1).toNat * 3)) = some (.int .i64 ((rd_T61 t819 x10_1).f0)) ∧ w'.cell? ⟨(ad844.add ((x10_1).toNat * 3)).block, (ad844.add ((x10_1).toNat * 3)).off + 1, none⟩ = some (.int .i64 ((rd_T61 t819 x10_1).f1)) ∧ w'.cell? ⟨(ad844.add ((x10_1).toNat * 3)).block, (ad844.add ((x10_1).toNat * 3)).off + 2, none⟩ = some (.int .i64 ((rd_T61 t819 x10_1).f2)) ∧ w'.cell? (ad844.add ((x10_1).toNat * 3)) = some (.int .i64 ((rd_T61 t819 x10_1).f0)) ∧ w'.cell? ⟨(ad844.add ((x10_1).toNat * 3)).block, (ad844.add ((x10_1).toNat * 3)).off + 1, none⟩ = some (.int .i64 ((rd_T61 t819 x10_1).f1)) ∧ w'.cell? ⟨(ad844.add ((x10_1).toNat * 3)).block, (ad844.add ((x10_1).toNat * 3)).off + 2, none⟩ = some (.int .i64 ((rd_T61 t819 x10_1).f2)) ∧ w'.cell? (ad844.add ((x10_1).toNat * 3)) = some (.int .i64 ((rd_T61 t819 x10_1).f0)) ∧ w'.cell? ⟨(ad844.add ((x10_1).toNat * 3)).block, (ad844.add ((x10_1).toNat * 3)).off + 1, none⟩ = some (.int .i64 ((rd_T61 t819 x10_1).f1)) ∧ w'.cell? ⟨(ad844.add ((x10_1).toNat * 3)).block, (ad844.add ((x10_1).toNat * 3)).off + 2, none⟩ = some (.int .i64 ((rd_T61 t819 x10_1).f2))) (ds := []) #[false, false, false, false, false, false, false, false, false, false, false, false, false, false, false, false, false, false, false, false, false, false, false, false, false, false] (by kernel_rfl) rfl rfl ⟨hx844_0, hx844_1, hx844_2, hx845_0, hx845_1, hx845_2, hx847_0, hx847_1, hx847_2, hx848_0, hx848_1, hx848_2⟩ (fun hHeld => ?_); refine with_tabW laws_FnPost.tab21 laws_FnPost.bits21 (fun HT_ HW_ => ?_)
             generalize wr.drew = w38 at HO_3 HO_4 HO_5 HO_6 HB hx844_0 hx844_1 hx844_2 hx845_0 hx845_1 hx845_2 hx847_0 hx847_1 hx847_2 hx848_0 hx848_1 hx848_2 hHeld ⊢
             refine pure_ (i := 0) (N := some 105) (v := ?_) (a' := ?_) #[true, false, false, false, false, false, false, false, false, false, false, false, false, false, false, false, false, false, false, false, false, false, false, false, false, false] rfl rfl (any_of HT_.out (by kernel_rfl)) (fun _ _ _ h => h) (Or.inl ⟨by rfl, ?_⟩) ?_ ?_
             rotate_left
             ·
              intro w'
              go_simp
              with_reducible rfl
             rotate_left
             ·
              simp only [Act.put, List.setIfInBounds_toArray, List.set_cons_zero, List.set_cons_succ, i64_w, i32_w]
              rfl
             refine pure_ (i := 1) (N := some 106) (v := ?_) (a' := ?_) #[true, true, false, false, false, false, false, false, false, false, false, false, false, false, false, false, false, false, false, false, false, false, false, false, false, false] rfl rfl (any_of HT_.out (by kernel_rfl)) (fun _ _ _ h => h) (Or.inl ⟨by rfl, ?_⟩) ?_ ?_
             rotate_left
             ·
              intro w'
              go_simp
              with_reducible rfl
             rotate_left
             ·
              simp only [Act.put, List.setIfInBounds_toArray, List.set_cons_zero, List.set_cons_succ, i64_w, i32_w]
              rfl
             refine pure_ (i := 2) (N := some 107) (v := ?_) (a' := ?_) #[true, true, true, false, false, false, false, false, false, false, false, false, false, false, false, false, false, false, false, false, false, false, false, false, false, false] rfl rfl (any_of HT_.out (by kernel_rfl)) (fun _ _ _ h => h) (Or.inl ⟨by rfl, ?_⟩) ?_ ?_
             rotate_left
             ·
              intro w'
              go_simp
              with_reducible rfl
             rotate_left
             ·
              simp only [Act.put, List.setIfInBounds_toArray, List.set_cons_zero, List.set_cons_succ, i64_w, i32_w]
              rfl
             refine pure_ (i := 3) (N := some 108) (v := ?_) (a' := ?_) #[true, true, true, true, false, false, false, false, false, false, false, false, false, false, false, false, false, false, false, false, false, false, false, false, false, false] rfl rfl (any_of HT_.out (by kernel_rfl)) (fun _ _ _ h => h) (Or.inl ⟨by rfl, ?_⟩) ?_ ?_
             rotate_left
             ·
              intro w'
              go_simp
              with_reducible rfl
             rotate_left
             ·
              simp only [Act.put, List.setIfInBounds_toArray, List.set_cons_zero, List.set_cons_succ, i64_w, i32_w]
              rfl
             refine pure_ (i := 4) (N := some 109) (v := ?_) (a' := ?_) #[true, true, true, true, true, false, false, false, false, false, false, false, false, false, false, false, false, false, false, false, false, false, false, false, false, false] rfl rfl (any_of HT_.out (by kernel_rfl)) (fun _ _ _ h => h) (Or.inl ⟨by rfl, ?_⟩) ?_ ?_
             rotate_left
             ·
              intro w'
              go_simp
              with_reducible rfl
             rotate_left
             ·
              simp only [Act.put, List.setIfInBounds_toArray, List.set_cons_zero, List.set_cons_succ, i64_w, i32_w]
              rfl
             refine pure_ (i := 6) (N := some 111) (v := ?_) (a' := ?_) #[true, true, true, true, true, false, true, false, false, false, false, false, false, false, false, false, false, false, false, false, false, false, false, false, false, false] rfl rfl (any_of HT_.out (by kernel_rfl)) (fun _ _ _ h => h) (Or.inl ⟨by rfl, ?_⟩) ?_ ?_
             rotate_left
             ·
              intro w'
              go_simp
              with_reducible rfl
             rotate_left
             ·
              simp only [Act.put, List.setIfInBounds_toArray, List.set_cons_zero, List.set_cons_succ, i64_w, i32_w]
              rfl
             refine pure_ (i := 7) (N := some 112) (v := ?_) (a' := ?_) #[true, true, true, true, true, false, true, true, false, false, false, false, false, false, false, false, false, false, false, false, false, false, false, false, false, false] rfl rfl (any_of HT_.out (by kernel_rfl)) (fun _ _ _ h => h) (Or.inl ⟨by rfl, ?_⟩) ?_ ?_
             rotate_left
             ·
              intro w'
              go_simp
              with_reducible rfl
             rotate_left
             ·
              simp only [Act.put, List.setIfInBounds_toArray, List.set_cons_zero, List.set_cons_succ, i64_w, i32_w]
              rfl
             refine pure_ (i := 8) (N := some 113) (v := ?_) (a' := ?_) #[true, true, true, true, true, false, true, true, true, false, false, false, false, false, false, false, false, false, false, false, false, false, false, false, false, false] rfl rfl (any_of HT_.out (by kernel_rfl)) (fun _ _ _ h => h) (Or.inl ⟨by rfl, ?_⟩) ?_ ?_
             rotate_left
             ·
              intro w'
              go_simp
              with_reducible rfl
             rotate_left
             ·
              simp only [Act.put, List.setIfInBounds_toArray, List.set_cons_zero, List.set_cons_succ, i64_w, i32_w]
              rfl
             refine pure_ (i := 9) (N := some 114) (v := ?_) (a' := ?_) #[true, true, true, true, true, false, true, true, true, true, false, false, false, false, false, false, false, false, false, false, false, false, false, false, false, false] rfl rfl (any_of HT_.out (by kernel_rfl)) (fun _ _ _ h => h) (Or.inl ⟨by rfl, ?_⟩) ?_ ?_
             rotate_left
             ·
              intro w'
              go_simp
              with_reducible rfl
             rotate_left
             ·
              simp only [Act.put, List.setIfInBounds_toArray, List.set_cons_zero, List.set_cons_succ, i64_w, i32_w]
              rfl
             refine pure_ (i := 12) (N := some 117) (v := ?_) (a' := ?_) #[true, true, true, true, true, false, true, true, true, true, false, false, true, false, false, false, false, false, false, false, false, false, false, false, false, false] rfl rfl (any_of HT_.out (by kernel_rfl)) (fun _ _ _ h => h) (Or.inl ⟨by rfl, ?_⟩) ?_ ?_
             rotate_left
             ·
              intro w'
              go_simp
              with_reducible rfl
             rotate_left
             ·
              simp only [Act.put, List.setIfInBounds_toArray, List.set_cons_zero, List.set_cons_succ, i64_w, i32_w]
              rfl
             refine pure_ (i := 13) (N := some 118) (v := ?_) (a' := ?_) #[true, true, true, true, true, false, true, true, true, true, false, false, true, true, false, false, false, false, false, false, false, false, false, false, false, false] rfl rfl (any_of HT_.out (by kernel_rfl)) (fun _ _ _ h => h) (Or.inl ⟨by rfl, ?_⟩) ?_ ?_
             rotate_left
             ·
              intro w'
              go_simp
              with_reducible rfl
             rotate_left
             ·
              simp only [Act.put, List.setIfInBounds_toArray, List.set_cons_zero, List.set_cons_succ, i64_w, i32_w]
              rfl
             refine pure_ (i := 14) (N := some 119) (v := ?_) (a' := ?_) #[true, true, true, true, true, false, true, true, true, true, false, false, true, true, true, false, false, false, false, false, false, false, false, false, false, false] rfl rfl (any_of HT_.out (by kernel_rfl)) (fun _ _ _ h => h) (Or.inl ⟨by rfl, ?_⟩) ?_ ?_
             rotate_left
             ·
              intro w'
              go_simp
              with_reducible rfl
             rotate_left
             ·
              simp only [Act.put, List.setIfInBounds_toArray, List.set_cons_zero, List.set_cons_succ, i64_w, i32_w]
              rfl
             refine pure_ (i := 15) (N := some 120) (v := ?_) (a' := ?_) #[true, true, true, true, true, false, true, true, true, true, false, false, true, true, true, true, false, false, false, false, false, false, false, false, false, false] rfl rfl (any_of HT_.out (by kernel_rfl)) (fun _ _ _ h => h) (Or.inl ⟨by rfl, ?_⟩) ?_ ?_
             rotate_left
             ·
              intro w'
              go_simp
              with_reducible rfl
             rotate_left
             ·
              simp only [Act.put, List.setIfInBounds_toArray, List.set_cons_zero, List.set_cons_succ, i64_w, i32_w]
              rfl
             refine pure_ (i := 16) (N := some 121) (v := ?_) (a' := ?_) #[true, true, true, true, true, false, true, true, true, true, false, false, true, true, true, true, true, false, false, false, false, false, false, false, false, false] rfl rfl (any_of HT_.out (by kernel_rfl)) (fun _ _ _ h => h) (Or.inl ⟨by rfl, ?_⟩) ?_ ?_
             rotate_left
             ·
              intro w'
              go_simp
              with_reducible rfl
             rotate_left
             ·
              simp only [Act.put, List.setIfInBounds_toArray, List.set_cons_zero, List.set_cons_succ, i64_w, i32_w]
              rfl
             refine pure_ (i := 18) (N := some 123) (v := ?_) (a' := ?_) #[true, true, true, true, true, false, true, true, true, true, false, false, true, true, true, true, true, false, true, false, false, false, false, false, false, false] rfl rfl (any_of HT_.out (by kernel_rfl)) (fun _ _ _ h => h) (Or.inl ⟨by rfl, ?_⟩) ?_ ?_
             rotate_left
             ·
              intro w'
              go_simp
              with_reducible rfl
             rotate_left
             ·
              simp only [Act.put, List.setIfInBounds_toArray, List.set_cons_zero, List.set_cons_succ, i64_w, i32_w]
              rfl
             refine pure_ (i := 19) (N := some 124) (v := ?_) (a' := ?_) #[true, true, true, true, true, false, true, true, true, true, false, false, true, true, true, true, true, false, true, true, false, false, false, false, false, false] rfl rfl (any_of HT_.out (by kernel_rfl)) (fun _ _ _ h => h) (Or.inl ⟨by rfl, ?_⟩) ?_ ?_
             rotate_left
             ·
              intro w'
              go_simp
              with_reducible rfl
             rotate_left
             ·
              simp only [Act.put, List.setIfInBounds_toArray, List.set_cons_zero, List.set_cons_succ, i64_w, i32_w]
              rfl
             refine pure_ (i := 20) (N := some 125) (v := ?_) (a' := ?_) #[true, true, true, true, true, false, true, true, true, true, false, false, true, true, true, true, true, false, true, true, true, false, false, false, false, false] rfl rfl (any_of HT_.out (by kernel_rfl)) (fun _ _ _ h => h) (Or.inl ⟨by rfl, ?_⟩) ?_ ?_
             rotate_left
             ·
              intro w'
              go_simp
              with_reducible rfl
             rotate_left
             ·
              simp only [Act.put, List.setIfInBounds_toArray, List.set_cons_zero, List.set_cons_succ, i64_w, i32_w]
              rfl
             refine pure_ (i := 21) (N := some 126) (v := ?_) (a' := ?_) #[true, true, true, true, true, false, true, true, true, true, false, false, true, true, true, true, true, false, true, true, true, true, false, false, false, false] rfl rfl (any_of HT_.out (by kernel_rfl)) (fun _ _ _ h => h) (Or.inl ⟨by rfl, ?_⟩) ?_ ?_
             rotate_left
             ·
              intro w'
              go_simp
              with_reducible rfl
             rotate_left
             ·
              simp only [Act.put, List.setIfInBounds_toArray, List.set_cons_zero, List.set_cons_succ, i64_w, i32_w]
              rfl
             refine take_ (i := 5) (N := some 110) (v := ?_) (a' := ?_) #[true, true, true, true, true, true, true, true, true, true, false, false, true, true, true, true, true, false, true, true, true, true, false, false, false, false] rfl rfl (take_ofW HT_.out HW_.out (by kernel_rfl)) (fun _ _ _ h => h) (Or.inl ⟨by rfl, ?_⟩) hHeld ?_ ?_
             rotate_left
             ·
              rintro w' ⟨s0, s1, s2, s3, s4, s5, s6, s7, s8, s9, s10, s11⟩
              go_simp
              with_reducible rfl
             rotate_left
             ·
              simp only [Act.put, List.setIfInBounds_toArray, List.set_cons_zero, List.set_cons_succ, i64_w, i32_w]
              rfl
             refine take_ (i := 10) (N := some 115) (v := ?_) (a' := ?_) #[true, true, true, true, true, true, true, true, true, true, true, false, true, true, true, true, true, false, true, true, true, true, false, false, false, false] rfl rfl (take_ofW HT_.out HW_.out (by kernel_rfl)) (fun _ _ _ h => h) (Or.inl ⟨by rfl, ?_⟩) hHeld ?_ ?_
             rotate_left
             ·
              rintro w' ⟨s0, s1, s2, s3, s4, s5, s6, s7, s8, s9, s10, s11⟩
              go_simp
              with_reducible rfl
             rotate_left
             ·
              simp only [Act.put, List.setIfInBounds_toArray, List.set_cons_zero, List.set_cons_succ, i64_w, i32_w]
              rfl
             refine take_ (i := 17) (N := some 122) (v := ?_) (a' := ?_) #[true, true, true, true, true, true, true, true, true, true, true, false, true, true, true, true, true, true, true, true, true, true, false, false, false, false] rfl rfl (take_ofW HT_.out HW_.out (by kernel_rfl)) (fun _ _ _ h => h) (Or.inl ⟨by rfl, ?_⟩) hHeld ?_ ?_
             rotate_left
             ·
              rintro w' ⟨s0, s1, s2, s3, s4, s5, s6, s7, s8, s9, s10, s11⟩
              go_simp
              with_reducible rfl
             rotate_left
             ·
              simp only [Act.put, List.setIfInBounds_toArray, List.set_cons_zero, List.set_cons_succ, i64_w, i32_w]
              rfl
             refine take_ (i := 22) (N := some 127) (v := ?_) (a' := ?_) #[true, true, true, true, true, true, true, true, true, true, true, false, true, true, true, true, true, true, true, true, true, true, true, false, false, false] rfl rfl (take_ofW HT_.out HW_.out (by kernel_rfl)) (fun _ _ _ h => h) (Or.inl ⟨by rfl, ?_⟩) hHeld ?_ ?_
             rotate_left
             ·
              rintro w' ⟨s0, s1, s2, s3, s4, s5, s6, s7, s8, s9, s10, s11⟩
              go_simp
              with_reducible rfl
             rotate_left
             ·
              simp only [Act.put, List.setIfInBounds_toArray, List.set_cons_zero, List.set_cons_succ, i64_w, i32_w]
              rfl
             refine one_ (i := 11) (N := some 116) #[true, true, true, true, true, true, true, true, true, true, true, true, true, true, true, true, true, true, true, true, true, true, true, false, false, false] rfl rfl (one_of HT_.out (by kernel_rfl)) (by decide) (fun K hK => ?_)
             refine goes_ Try.func22 (by kernel_rfl) rfl #[.slice Ao18 t818.length co18, .int .i64 ((rd_T61 t819 x10_1).f0), .int .i64 ((rd_T61 t819 x10_1).f1)] (by rfl) rfl rfl (by (try simp only [List.map_toArray, List.map_cons, List.map_nil]); first | done | rfl | (simp only [List.length_drop, List.length_take]; rfl)) ?_
             with_reducible refine (spec_BalOf.calls k2 _ _ t818 ((rd_T61 t819 x10_1).f0) ((rd_T61 t819 x10_1).f1) t846 _ ?side1 ?side2 A35.out).mono ?_
             (case side1 => repeat (first | exact (Kd.R_reads' HO_3.out).2.2 | (with_reducible refine Kd.C_alloc ?_ _) | (with_reducible refine Kd.C_drewN ?_ _) | (with_reducible refine Kd.C_drew ?_)))
             (case side2 => exact (Kd.R_reads' HO_3.out).2.1)
             rintro e w39 ⟨rfl, hb⟩
             have HS0_ := (hb.cell (World.block_lt_of_cell? _ _ (hHeld.1))).trans (hHeld.1)
             have HS1_ := (hb.cell (World.block_lt_of_cell? _ _ (hHeld.2.1))).trans (hHeld.2.1)
             have HS2_ := (hb.cell (World.block_lt_of_cell? _ _ (hHeld.2.2.1))).trans (hHeld.2.2.1)
             have HS3_ := (hb.cell (World.block_lt_of_cell? _ _ (hHeld.2.2.2.1))).trans (hHeld.2.2.2.1)
             have HS4_ := (hb.cell (World.block_lt_of_cell? _ _ (hHeld.2.2.2.2.1))).trans (hHeld.2.2.2.2.1)
             have HS5_ := (hb.cell (World.block_lt_of_cell? _ _ (hHeld.2.2.2.2.2.1))).trans (hHeld.2.2.2.2.2.1)
             have HS6_ := (hb.cell (World.block_lt_of_cell? _ _ (hHeld.2.2.2.2.2.2.1))).trans (hHeld.2.2.2.2.2.2.1)
             have HS7_ := (hb.cell (World.block_lt_of_cell? _ _ (hHeld.2.2.2.2.2.2.2.1))).trans (hHeld.2.2.2.2.2.2.2.1)
             have HS8_ := (hb.cell (World.block_lt_of_cell? _ _ (hHeld.2.2.2.2.2.2.2.2.1))).trans (hHeld.2.2.2.2.2.2.2.2.1)
             have HS9_ := (hb.cell (World.block_lt_of_cell? _ _ (hHeld.2.2.2.2.2.2.2.2.2.1))).trans (hHeld.2.2.2.2.2.2.2.2.2.1)
             have HS10_ := (hb.cell (World.block_lt_of_cell? _ _ (hHeld.2.2.2.2.2.2.2.2.2.2.1))).trans (hHeld.2.2.2.2.2.2.2.2.2.2.1)
             have HS11_ := (hb.cell (World.block_lt_of_cell? _ _ (hHeld.2.2.2.2.2.2.2.2.2.2.2))).trans (hHeld.2.2.2.2.2.2.2.2.2.2.2)
             refine ⟨_, rfl, ?_⟩
             have n0_ := Aside0.mk (Kd.R_below (by (with_reducible repeat (first | apply Kd.R_alloc | apply Kd.R_drewN | apply Kd.R_drew)); exact HO_3.out) hb)
             have n1_ := Aside0.mk (Kd.R_below (by (with_reducible repeat (first | apply Kd.R_alloc | apply Kd.R_drewN | apply Kd.R_drew)); exact HO_4.out) hb)
             have n2_ := Aside0.mk (Kd.R_below (by (with_reducible repeat (first | apply Kd.R_alloc | apply Kd.R_drewN | apply Kd.R_drew)); exact HO_5.out) hb)
             have n3_ := Aside0.mk (Kd.R_below (by (with_reducible repeat (first | apply Kd.R_alloc | apply Kd.R_drewN | apply Kd.R_drew)); exact HO_6.out) hb)
             have n4_ := Aside0.mk (below_step (bb_) hb)
             clear HO_3
             clear HO_4
             clear HO_5
             clear HO_6
             clear HB
             have HO_3 := n0_
             have HO_4 := n1_
             have HO_5 := n2_
             have HO_6 := n3_
             have HB := n4_
             clear n0_ n1_ n2_ n3_ n4_
             (try clear hb)
             (try clear hb2)
             (try clear hk)
             (try clear hi)
             obtain ⟨Ao40, co40, eo40⟩ := Kd.R_slice HO_6.out
             (first | subst eo40 | (injection eo40 with f1_ f2_ f3_; have f4_ := f1_.symm; have f5_ := f3_.symm; clear f1_ f2_ f3_; subst f4_; subst f5_))
             refine hK.out _ _ ⟨HS0_, HS1_, HS2_, HS3_, HS4_, HS5_, HS6_, HS7_, HS8_, HS9_, HS10_, HS11_⟩ (fun hHeld => ?_)
             clear hK K
             refine norm_ (a' := ?_) ?_ ?_
             rotate_left
             ·
              show Act.put _ (some 116) _ = _
              simp only [Act.put, List.setIfInBounds_toArray, List.set_cons_zero, List.set_cons_succ, i64_w, i32_w]
              rfl
             refine one_ (i := 23) (N := some 128) #[true, true, true, true, true, true, true, true, true, true, true, true, true, true, true, true, true, true, true, true, true, true, true, true, false, false] rfl rfl (one_of HT_.out (by kernel_rfl)) (by decide) (fun K hK => ?_)
             refine goes_ Try.func23 (by kernel_rfl) rfl #[.slice Ao40 t827.length co40, .int .i64 ((rd_T61 t819 x10_1).f0), .int .i64 ((rd_T61 t819 x10_1).f1)] (by rfl) rfl rfl (by (try simp only [List.map_toArray, List.map_cons, List.map_nil]); first | done | rfl | (simp only [List.length_drop, List.length_take]; rfl)) ?_
             with_reducible refine (impl_BalOf.calls k2 _ _ t827 ((rd_T61 t819 x10_1).f0) ((rd_T61 t819 x10_1).f1) t849 _ ?side1 ?side2 A36.out).mono ?_
             (case side1 => repeat (first | exact (Kd.R_reads' HO_6.out).2.2 | (with_reducible refine Kd.C_alloc ?_ _) | (with_reducible refine Kd.C_drewN ?_ _) | (with_reducible refine Kd.C_drew ?_)))
             (case side2 => exact (Kd.R_reads' HO_6.out).2.1)
             rintro e w41 ⟨rfl, hb⟩
             have HS0_ := (hb.cell (World.block_lt_of_cell? _ _ (hHeld.1))).trans (hHeld.1)
             have HS1_ := (hb.cell (World.block_lt_of_cell? _ _ (hHeld.2.1))).trans (hHeld.2.1)
             have HS2_ := (hb.cell (World.block_lt_of_cell? _ _ (hHeld.2.2.1))).trans (hHeld.2.2.1)
             have HS3_ := (hb.cell (World.block_lt_of_cell? _ _ (hHeld.2.2.2.1))).trans (hHeld.2.2.2.1)
             have HS4_ := (hb.cell (World.block_lt_of_cell? _ _ (hHeld.2.2.2.2.1))).trans (hHeld.2.2.2.2.1)
             have HS5_ := (hb.cell (World.block_lt_of_cell? _ _ (hHeld.2.2.2.2.2.1))).trans (hHeld.2.2.2.2.2.1)
             have HS6_ := (hb.cell (World.block_lt_of_cell? _ _ (hHeld.2.2.2.2.2.2.1))).trans (hHeld.2.2.2.2.2.2.1)
             have HS7_ := (hb.cell (World.block_lt_of_cell? _ _ (hHeld.2.2.2.2.2.2.2.1))).trans (hHeld.2.2.2.2.2.2.2.1)
             have HS8_ := (hb.cell (World.block_lt_of_cell? _ _ (hHeld.2.2.2.2.2.2.2.2.1))).trans (hHeld.2.2.2.2.2.2.2.2.1)
             have HS9_ := (hb.cell (World.block_lt_of_cell? _ _ (hHeld.2.2.2.2.2.2.2.2.2.1))).trans (hHeld.2.2.2.2.2.2.2.2.2.1)
             have HS10_ := (hb.cell (World.block_lt_of_cell? _ _ (hHeld.2.2.2.2.2.2.2.2.2.2.1))).trans (hHeld.2.2.2.2.2.2.2.2.2.2.1)
             have HS11_ := (hb.cell (World.block_lt_of_cell? _ _ (hHeld.2.2.2.2.2.2.2.2.2.2.2))).trans (hHeld.2.2.2.2.2.2.2.2.2.2.2)
             refine ⟨_, rfl, ?_⟩
             have n0_ := Aside0.mk (Kd.R_below (by (with_reducible repeat (first | apply Kd.R_alloc | apply Kd.R_drewN | apply Kd.R_drew)); exact HO_3.out) hb)
             have n1_ := Aside0.mk (Kd.R_below (by (with_reducible repeat (first | apply Kd.R_alloc | apply Kd.R_drewN | apply Kd.R_drew)); exact HO_4.out) hb)
             have n2_ := Aside0.mk (Kd.R_below (by (with_reducible repeat (first | apply Kd.R_alloc | apply Kd.R_drewN | apply Kd.R_drew)); exact HO_5.out) hb)
             have n3_ := Aside0.mk (Kd.R_below (by (with_reducible repeat (first | apply Kd.R_alloc | apply Kd.R_drewN | apply Kd.R_drew)); exact HO_6.out) hb)
             have n4_ := Aside0.mk (below_step (bb_) hb)
             clear HO_3
             clear HO_4
             clear HO_5
             clear HO_6
             clear HB
             have HO_3 := n0_
             have HO_4 := n1_
             have HO_5 := n2_
             have HO_6 := n3_
             have HB := n4_
             clear n0_ n1_ n2_ n3_ n4_
             (try clear hb)
             (try clear hb2)
             (try clear hk)
             (try clear hi)
             refine hK.out _ _ ⟨HS0_, HS1_, HS2_, HS3_, HS4_, HS5_, HS6_, HS7_, HS8_, HS9_, HS10_, HS11_⟩ (fun hHeld => ?_)
             clear hK K
             refine norm_ (a' := ?_) ?_ ?_
             rotate_left
             ·
              show Act.put _ (some 128) _ = _
              simp only [Act.put, List.setIfInBounds_toArray, List.set_cons_zero, List.set_cons_succ, i64_w, i32_w]
              rfl
             refine pure_ (i := 24) (N := some 13) (v := ?_) (a' := ?_) #[true, true, true, true, true, true, true, true, true, true, true, true, true, true, true, true, true, true, true, true, true, true, true, true, true, false] rfl rfl (any_of HT_.out (by kernel_rfl)) (fun _ _ _ h => h) (Or.inl ⟨by rfl, ?_⟩) ?_ ?_
             rotate_left
             ·
              intro w'
              go_simp
              with_reducible rfl
             rotate_left
             ·
              simp only [Act.put, List.setIfInBounds_toArray, List.set_cons_zero, List.set_cons_succ, i64_w, i32_w]
              rfl
             refine pure_ (i := 25) (N := some 14) (v := ?_) (a' := ?_) #[true, true, true, true, true, true, true, true, true, true, true, true, true, true, true, true, true, true, true, true, true, true, true, true, true, true] rfl rfl (any_of HT_.out (by kernel_rfl)) (fun _ _ _ h => h) (Or.inl ⟨by rfl, ?_⟩) ?_ ?_
             rotate_left
             ·
              intro w'
              go_simp
              with_reducible rfl
             rotate_left
             ·
              simp only [Act.put, List.setIfInBounds_toArray, List.set_cons_zero, List.set_cons_succ, i64_w, i32_w]
              rfl
             refine done_ (done_of HT_.out (by kernel_rfl)) ?_
             go_upto_region 22 with (fail)
             go_cut [147] (fun v147 wc => ∃ (kq : Nat) (x147_36 : Bool), v147 = .bool x147_36 ∧ Aside0 (laws_FnPost.j2 kq t818 t819 t820 t827 x10_1 x147_36 = some r) ∧ Aside0 (kq ≤ k2) ∧ Aside0 (Kd.R k58 58 wc w.heap.size (fun k_ => some k_ ≠ ((.slice Ao40 t827.length co40) : Value).ownBlock) (.slice Ao18 t818.length co18) t818) ∧ Aside0 (Kd.R k61 61 wc w.heap.size (fun _ => True) (.slice (some ad844) t819.length co19) t819) ∧ Aside0 (Kd.R (Kd.int .i64) 3 wc w.heap.size (fun _ => True) (.slice Ao20 t820.length co20) t820) ∧ Aside0 (Kd.R k58 58 wc w.heap.size (fun k_ => some k_ ≠ ((.slice Ao18 t818.length co18) : Value).ownBlock) (.slice Ao40 t827.length co40) t827) ∧ Aside0 (Below w.heap.size w wc))
             case first =>
              have H := HC37.out
              clear HC37
              by_cases c42 : t849 = (wrap64 (t846 + x11_2))
              ·
               rw [if_pos c42] at H
               have c42b0 : (t849 == (wrap64 (t846 + x11_2))) = true := beq_iff_eq.mpr c42
               have c42b1 : (t849 != (wrap64 (t846 + x11_2))) = false := bne_eq_false_iff_eq.mpr c42
               clear c42
               (first | rw [c42b0] | (simp only [i64_w, i32_w]; rw [c42b0]) | skip)
               by_cases c43 : t849 < 0
               ·
                rw [if_pos c43] at H
                have c43b0 : decide (t849 < 0) = true := decide_eq_true c43
                clear c43
                replace H := Option.bind_eq_some_iff.mp H
                obtain ⟨t851, A440, H⟩ := H
                replace H : (laws_FnPost.j2 k2 t818 t819 t820 t827 x10_1 (!t851)) = some r := H
                have A44 := Aside0.mk A440
                clear A440
                have H' := Aside0.mk H
                clear H
                have p850 : 0 ≤ (x10_1 : Int) := of_decide_eq_true (by first | (with_reducible assumption) | assumption)
                have q850 : x10_1 < (t819.length : Int) := of_decide_eq_true (by first | (with_reducible assumption) | assumption)
                obtain ⟨ad850, e850, hx850_0, hx850_1, hx850_2⟩ := at_T61 (Kd.R_reads' HO_4.out).2.2 x10_1 p850 q850
                obtain rfl : ad844 = ad850 := (by injection e850)
                replace p850 := eq_true p850
                replace q850 := eq_true q850
                go_wp2_with (first | (go_at_call 40; (with_reducible refine (laws_within.calls k2 _ _ t820 ((rd_T61 t819 x10_1).f0) t851 _ ?side1 ?side2 A44.out).mono ?_); (case side1 => repeat (first | exact (Kd.R_reads' HO_5.out).2.2 | (with_reducible refine Kd.C_alloc ?_ _) | (with_reducible refine Kd.C_drewN ?_ _) | (with_reducible refine Kd.C_drew ?_))); (case side2 => exact (Kd.R_reads' HO_5.out).2.1); rintro e w' ⟨rfl, ⟨nd, rfl⟩⟩))
                go_meet
                case rel => exact ⟨_, (!t851), (by first | rfl | (simp; done) | (simp [*]; done)), H', ⟨by have := HK1.out; have := HK2.out; first | omega | exact Nat.le_refl _⟩, ⟨by (with_reducible repeat (first | apply Kd.R_alloc | apply Kd.R_drewN | apply Kd.R_drew)); exact HO_3.out⟩, ⟨by (with_reducible repeat (first | apply Kd.R_alloc | apply Kd.R_drewN | apply Kd.R_drew)); exact HO_4.out⟩, ⟨by (with_reducible repeat (first | apply Kd.R_alloc | apply Kd.R_drewN | apply Kd.R_drew)); exact HO_5.out⟩, ⟨by (with_reducible repeat (first | apply Kd.R_alloc | apply Kd.R_drewN | apply Kd.R_drew)); exact HO_6.out⟩, ⟨bb_⟩⟩
               ·
                rw [if_neg c43] at H
                have c43b0 : decide (t849 < 0) = false := decide_eq_false c43
                clear c43
                have H' := Aside0.mk H
                clear H
                go_wp2
                go_meet
                case rel => exact ⟨_, (false), (by first | rfl | (simp; done) | (simp [*]; done)), H', ⟨by have := HK1.out; have := HK2.out; first | omega | exact Nat.le_refl _⟩, ⟨by (with_reducible repeat (first | apply Kd.R_alloc | apply Kd.R_drewN | apply Kd.R_drew)); exact HO_3.out⟩, ⟨by (with_reducible repeat (first | apply Kd.R_alloc | apply Kd.R_drewN | apply Kd.R_drew)); exact HO_4.out⟩, ⟨by (with_reducible repeat (first | apply Kd.R_alloc | apply Kd.R_drewN | apply Kd.R_drew)); exact HO_5.out⟩, ⟨by (with_reducible repeat (first | apply Kd.R_alloc | apply Kd.R_drewN | apply Kd.R_drew)); exact HO_6.out⟩, ⟨bb_⟩⟩
              ·
               rw [if_neg c42] at H
               exact absurd H (by simp)
             case rest =>
              clear HC37
              try clear c2
              try clear p2
              try clear c3
              try clear c4
              try clear p6
              try clear p8
              try clear q8
              try clear hx8
              try clear c22
              try clear c23
              try clear c24
              try clear c24b0
              try clear c25
              try clear c26
              try clear c27
              try clear c28
              try clear c28b0
              try clear c28b1
              try clear c33
              try clear c33b0
              try clear c34
              try clear c34b0
              try clear c42
              try clear c42b0
              try clear c42b1
              try clear c43
              try clear c43b0
              try clear hx839_0
              try clear hx839_1
              try clear hx839_2
              try clear hx840_0
              try clear hx840_1
              try clear hx840_2
              try clear hx844_0
              try clear hx844_1
              try clear hx844_2
              try clear hx845_0
              try clear hx845_1
              try clear hx845_2
              try clear hx847_0
              try clear hx847_1
              try clear hx847_2
              try clear hx848_0
              try clear hx848_1
              try clear hx848_2
              try clear hx850_0
              try clear hx850_1
              try clear hx850_2
              try clear p839
              try clear p840
              try clear p844
              try clear p845
              try clear p847
              try clear p848
              try clear p850
              try clear q839
              try clear q840
              try clear q844
              try clear q845
              try clear q847
              try clear q848
              try clear q850
              obtain ⟨kq, x147_36, rfl, HA, HJ36, HO_3, HO_4, HO_5, HO_6, HB⟩ := hcut
              cases kq with
              | zero => exact absurd HA.out (by simp [laws_FnPost.j2])
              | succ kj36 =>
               have H := HA.out
               clear HA
               simp only [laws_FnPost.j2] at H
               by_cases c45 : x147_36 = true
               ·
                subst c45
                have H1 : (none) = some r := by rw [if_pos rfl] at H; exact H
                clear H
                have H := H1
                clear H1
                exact absurd H (by simp)
               ·
                replace c45 := Bool.eq_false_iff.mpr c45
                subst c45
                have H1 : (if 0 ≤ x10_1 then (if x10_1 < (t819.length : Int) then ((spec_BalsSum.f kj36 t818 ((rd_T61 t819 x10_1).f1)).bind fun bt853 => ((impl_BalsSum.f kj36 t827 ((rd_T61 t819 x10_1).f1)).bind fun bt856 => (if bt853.2 = true then (if bt856.2 = true then (if bt853.1 = bt856.1 then (laws_FnPost.l0 kj36 t818 t819 t820 t827 (wrap64 (x10_1 + 1))) else (none)) else (laws_FnPost.l0 kj36 t818 t819 t820 t827 (wrap64 (x10_1 + 1)))) else (laws_FnPost.l0 kj36 t818 t819 t820 t827 (wrap64 (x10_1 + 1)))))) else (none)) else (none)) = some r := by rw [if_neg (show ¬ (false = true) by decide)] at H; exact H
                clear H
                have H := H1
                clear H1
                by_cases c46 : 0 ≤ x10_1
                ·
                 rw [if_pos c46] at H
                 have c46b0 : decide (0 ≤ x10_1) = true := decide_eq_true c46
                 clear c46
                 by_cases c47 : x10_1 < (t819.length : Int)
                 ·
                  rw [if_pos c47] at H
                  have c47b0 : decide (x10_1 < (t819.length : Int)) = true := decide_eq_true c47
                  clear c47
                  replace H := Option.bind_eq_some_iff.mp H
                  obtain ⟨⟨t853, t854⟩, A480, H⟩ := H
                  replace H : ((impl_BalsSum.f kj36 t827 ((rd_T61 t819 x10_1).f1)).bind fun bt856 => (if t854 = true then (if bt856.2 = true then (if t853 = bt856.1 then (laws_FnPost.l0 kj36 t818 t819 t820 t827 (wrap64 (x10_1 + 1))) else (none)) else (laws_FnPost.l0 kj36 t818 t819 t820 t827 (wrap64 (x10_1 + 1)))) else (laws_FnPost.l0 kj36 t818 t819 t820 t827 (wrap64 (x10_1 + 1))))) = some r := H
                  have A48 := Aside0.mk A480
                  clear A480
                  replace H := Option.bind_eq_some_iff.mp H
                  obtain ⟨⟨t856, t857⟩, A490, H⟩ := H
                  replace H : (if t854 = true then (if t857 = true then (if t853 = t856 then (laws_FnPost.l0 kj36 t818 t819 t820 t827 (wrap64 (x10_1 + 1))) else (none)) else (laws_FnPost.l0 kj36 t818 t819 t820 t827 (wrap64 (x10_1 + 1)))) else (laws_FnPost.l0 kj36 t818 t819 t820 t827 (wrap64 (x10_1 + 1)))) = some r := H
                  have A49 := Aside0.mk A490
                  clear A490
                  by_cases c50 : t854 = true
                  ·
                   subst c50
                   have H1 : (if t857 = true then (if t853 = t856 then (laws_FnPost.l0 kj36 t818 t819 t820 t827 (wrap64 (x10_1 + 1))) else (none)) else (laws_FnPost.l0 kj36 t818 t819 t820 t827 (wrap64 (x10_1 + 1)))) = some r := by rw [if_pos rfl] at H; exact H
                   clear H
                   have H := H1
                   clear H1
                   by_cases c51 : t857 = true
                   ·
                    subst c51
                    have H1 : (if t853 = t856 then (laws_FnPost.l0 kj36 t818 t819 t820 t827 (wrap64 (x10_1 + 1))) else (none)) = some r := by rw [if_pos rfl] at H; exact H
                    clear H
                    have H := H1
                    clear H1
                    by_cases c52 : t853 = t856
                    ·
                     rw [if_pos c52] at H
                     have c52b0 : (t853 == t856) = true := beq_iff_eq.mpr c52
                     have c52b1 : (t853 != t856) = false := bne_eq_false_iff_eq.mpr c52
                     clear c52
                     have H' := Aside0.mk H
                     clear H
                     have p852 : 0 ≤ (x10_1 : Int) := of_decide_eq_true (by first | (with_reducible assumption) | assumption)
                     have q852 : x10_1 < (t819.length : Int) := of_decide_eq_true (by first | (with_reducible assumption) | assumption)
                     obtain ⟨ad852, e852, hx852_0, hx852_1, hx852_2⟩ := at_T61 (Kd.R_reads' HO_4.out).2.2 x10_1 p852 q852
                     obtain rfl : ad844 = ad852 := (by injection e852)
                     replace p852 := eq_true p852
                     replace q852 := eq_true q852
                     go_wp2_with (first | ((with_reducible refine gate_callee (f := 24) rfl ?_); refine goesL_ (some 155) rfl rfl Try.func24 (by kernel_rfl) rfl #[.slice Ao18 t818.length co18, .int .i64 ((rd_T61 t819 x10_1).f1)] rfl (by (try simp only [List.map_toArray, List.map_cons, List.map_nil]); first | done | rfl | (simp only [List.length_drop, List.length_take]; rfl)) ?_; (with_reducible refine (spec_BalsSum.calls kj36 _ _ t818 ((rd_T61 t819 x10_1).f1) t853 true _ ?side1 ?side2 A48.out).mono ?_); (case side1 => repeat (first | exact (Kd.R_reads' HO_3.out).2.2 | (with_reducible refine Kd.C_alloc ?_ _) | (with_reducible refine Kd.C_drewN ?_ _) | (with_reducible refine Kd.C_drew ?_))); (case side2 => exact (Kd.R_reads' HO_3.out).2.1); rintro e w53 ⟨rfl, hb⟩; refine ⟨_, rfl, ?_⟩; have n0_ := Aside0.mk (Kd.R_below (by (with_reducible repeat (first | apply Kd.R_alloc | apply Kd.R_drewN | apply Kd.R_drew)); exact HO_3.out) hb); have n1_ := Aside0.mk (Kd.R_below (by (with_reducible repeat (first | apply Kd.R_alloc | apply Kd.R_drewN | apply Kd.R_drew)); exact HO_4.out) hb); have n2_ := Aside0.mk (Kd.R_below (by (with_reducible repeat (first | apply Kd.R_alloc | apply Kd.R_drewN | apply Kd.R_drew)); exact HO_5.out) hb); have n3_ := Aside0.mk (Kd.R_below (by (with_reducible repeat (first | apply Kd.R_alloc | apply Kd.R_drewN | apply Kd.R_drew)); exact HO_6.out) hb); have n4_ := Aside0.mk (below_step (bb_) hb); clear HO_3; clear HO_4; clear HO_5; clear HO_6; clear HB; have HO_3 := n0_; have HO_4 := n1_; have HO_5 := n2_; have HO_6 := n3_; have HB := n4_; clear n0_ n1_ n2_ n3_ n4_; (try clear hb); (try clear hb2); (try clear hk); (try clear hi); have p855 : 0 ≤ (x10_1 : Int) := of_decide_eq_true (by first | (with_reducible assumption) | assumption); have q855 : x10_1 < (t819.length : Int) := of_decide_eq_true (by first | (with_reducible assumption) | assumption); obtain ⟨ad855, e855, hx855_0, hx855_1, hx855_2⟩ := at_T61 (Kd.R_reads' HO_4.out).2.2 x10_1 p855 q855; obtain rfl : ad844 = ad855 := (by injection e855); replace p855 := eq_true p855; replace q855 := eq_true q855) | ((with_reducible refine gate_callee (f := 25) rfl ?_); refine goesL_ (some 165) rfl rfl Try.func25 (by kernel_rfl) rfl #[.slice Ao40 t827.length co40, .int .i64 ((rd_T61 t819 x10_1).f1)] rfl (by (try simp only [List.map_toArray, List.map_cons, List.map_nil]); first | done | rfl | (simp only [List.length_drop, List.length_take]; rfl)) ?_; (with_reducible refine (impl_BalsSum.calls kj36 _ _ t827 ((rd_T61 t819 x10_1).f1) t856 true _ ?side1 ?side2 A49.out).mono ?_); (case side1 => repeat (first | exact (Kd.R_reads' HO_6.out).2.2 | (with_reducible refine Kd.C_alloc ?_ _) | (with_reducible refine Kd.C_drewN ?_ _) | (with_reducible refine Kd.C_drew ?_))); (case side2 => exact (Kd.R_reads' HO_6.out).2.1); rintro e w54 ⟨rfl, hb⟩; refine ⟨_, rfl, ?_⟩; have n0_ := Aside0.mk (Kd.R_below (by (with_reducible repeat (first | apply Kd.R_alloc | apply Kd.R_drewN | apply Kd.R_drew)); exact HO_3.out) hb); have n1_ := Aside0.mk (Kd.R_below (by (with_reducible repeat (first | apply Kd.R_alloc | apply Kd.R_drewN | apply Kd.R_drew)); exact HO_4.out) hb); have n2_ := Aside0.mk (Kd.R_below (by (with_reducible repeat (first | apply Kd.R_alloc | apply Kd.R_drewN | apply Kd.R_drew)); exact HO_5.out) hb); have n3_ := Aside0.mk (Kd.R_below (by (with_reducible repeat (first | apply Kd.R_alloc | apply Kd.R_drewN | apply Kd.R_drew)); exact HO_6.out) hb); have n4_ := Aside0.mk (below_step (bb_) hb); clear HO_3; clear HO_4; clear HO_5; clear HO_6; clear HB; have HO_3 := n0_; have HO_4 := n1_; have HO_5 := n2_; have HO_6 := n3_; have HB := n4_; clear n0_ n1_ n2_ n3_ n4_; (try clear hb); (try clear hb2); (try clear hk); (try clear hi)))
                     go_roundg kj36
                     case measure => have := HK1.out; have := HK2.out; have := HJ36.out; omega
                     case rel => exact ⟨(wrap64 (x10_1 + 1)), (by first | rfl | (simp; done) | (simp [*]; done)), H', ⟨by have := HK1.out; have := HK2.out; have := HJ36.out; omega⟩, ⟨by (with_reducible repeat (first | apply Kd.R_alloc | apply Kd.R_drewN | apply Kd.R_drew)); exact HO_3.out⟩, ⟨by (with_reducible repeat (first | apply Kd.R_alloc | apply Kd.R_drewN | apply Kd.R_drew)); exact HO_4.out⟩, ⟨by (with_reducible repeat (first | apply Kd.R_alloc | apply Kd.R_drewN | apply Kd.R_drew)); exact HO_5.out⟩, ⟨by (with_reducible repeat (first | apply Kd.R_alloc | apply Kd.R_drewN | apply Kd.R_drew)); exact HO_6.out⟩, ⟨bb_⟩⟩
                    ·
                     rw [if_neg c52] at H
                     exact absurd H (by simp)
                   ·
                    replace c51 := Bool.eq_false_iff.mpr c51
                    subst c51
                    have H1 : (laws_FnPost.l0 kj36 t818 t819 t820 t827 (wrap64 (x10_1 + 1))) = some r := by rw [if_neg (show ¬ (false = true) by decide)] at H; exact H
                    clear H
                    have H := H1
                    clear H1
                    have H' := Aside0.mk H
                    clear H
                    have p852 : 0 ≤ (x10_1 : Int) := of_decide_eq_true (by first | (with_reducible assumption) | assumption)
                    have q852 : x10_1 < (t819.length : Int) := of_decide_eq_true (by first | (with_reducible assumption) | assumption)
                    obtain ⟨ad852, e852, hx852_0, hx852_1, hx852_2⟩ := at_T61 (Kd.R_reads' HO_4.out).2.2 x10_1 p852 q852
                    obtain rfl : ad844 = ad852 := (by injection e852)
                    replace p852 := eq_true p852
                    replace q852 := eq_true q852
                    go_wp2_with (first | ((with_reducible refine gate_callee (f := 24) rfl ?_); refine goesL_ (some 155) rfl rfl Try.func24 (by kernel_rfl) rfl #[.slice Ao18 t818.length co18, .int .i64 ((rd_T61 t819 x10_1).f1)] rfl (by (try simp only [List.map_toArray, List.map_cons, List.map_nil]); first | done | rfl | (simp only [List.length_drop, List.length_take]; rfl)) ?_; (with_reducible refine (spec_BalsSum.calls kj36 _ _ t818 ((rd_T61 t819 x10_1).f1) t853 true _ ?side1 ?side2 A48.out).mono ?_); (case side1 => repeat (first | exact (Kd.R_reads' HO_3.out).2.2 | (with_reducible refine Kd.C_alloc ?_ _) | (with_reducible refine Kd.C_drewN ?_ _) | (with_reducible refine Kd.C_drew ?_))); (case side2 => exact (Kd.R_reads' HO_3.out).2.1); rintro e w55 ⟨rfl, hb⟩; refine ⟨_, rfl, ?_⟩; have n0_ := Aside0.mk (Kd.R_below (by (with_reducible repeat (first | apply Kd.R_alloc | apply Kd.R_drewN | apply Kd.R_drew)); exact HO_3.out) hb); have n1_ := Aside0.mk (Kd.R_below (by (with_reducible repeat (first | apply Kd.R_alloc | apply Kd.R_drewN | apply Kd.R_drew)); exact HO_4.out) hb); have n2_ := Aside0.mk (Kd.R_below (by (with_reducible repeat (first | apply Kd.R_alloc | apply Kd.R_drewN | apply Kd.R_drew)); exact HO_5.out) hb); have n3_ := Aside0.mk (Kd.R_below (by (with_reducible repeat (first | apply Kd.R_alloc | apply Kd.R_drewN | apply Kd.R_drew)); exact HO_6.out) hb); have n4_ := Aside0.mk (below_step (bb_) hb); clear HO_3; clear HO_4; clear HO_5; clear HO_6; clear HB; have HO_3 := n0_; have HO_4 := n1_; have HO_5 := n2_; have HO_6 := n3_; have HB := n4_; clear n0_ n1_ n2_ n3_ n4_; (try clear hb); (try clear hb2); (try clear hk); (try clear hi); have p855 : 0 ≤ (x10_1 : Int) := of_decide_eq_true (by first | (with_reducible assumption) | assumption); have q855 : x10_1 < (t819.length : Int) := of_decide_eq_true (by first | (with_reducible assumption) | assumption); obtain ⟨ad855, e855, hx855_0, hx855_1, hx855_2⟩ := at_T61 (Kd.R_reads' HO_4.out).2.2 x10_1 p855 q855; obtain rfl : ad844 = ad855 := (by injection e855); replace p855 := eq_true p855; replace q855 := eq_true q855) | ((with_reducible refine gate_callee (f := 25) rfl ?_); refine goesL_ (some 165) rfl rfl Try.func25 (by kernel_rfl) rfl #[.slice Ao40 t827.length co40, .int .i64 ((rd_T61 t819 x10_1).f1)] rfl (by (try simp only [List.map_toArray, List.map_cons, List.map_nil]); first | done | rfl | (simp only [List.length_drop, List.length_take]; rfl)) ?_; (with_reducible refine (impl_BalsSum.calls kj36 _ _ t827 ((rd_T61 t819 x10_1).f1) t856 false _ ?side1 ?side2 A49.out).mono ?_); (case side1 => repeat (first | exact (Kd.R_reads' HO_6.out).2.2 | (with_reducible refine Kd.C_alloc ?_ _) | (with_reducible refine Kd.C_drewN ?_ _) | (with_reducible refine Kd.C_drew ?_))); (case side2 => exact (Kd.R_reads' HO_6.out).2.1); rintro e w56 ⟨rfl, hb⟩; refine ⟨_, rfl, ?_⟩; have n0_ := Aside0.mk (Kd.R_below (by (with_reducible repeat (first | apply Kd.R_alloc | apply Kd.R_drewN | apply Kd.R_drew)); exact HO_3.out) hb); have n1_ := Aside0.mk (Kd.R_below (by (with_reducible repeat (first | apply Kd.R_alloc | apply Kd.R_drewN | apply Kd.R_drew)); exact HO_4.out) hb); have n2_ := Aside0.mk (Kd.R_below (by (with_reducible repeat (first | apply Kd.R_alloc | apply Kd.R_drewN | apply Kd.R_drew)); exact HO_5.out) hb); have n3_ := Aside0.mk (Kd.R_below (by (with_reducible repeat (first | apply Kd.R_alloc | apply Kd.R_drewN | apply Kd.R_drew)); exact HO_6.out) hb); have n4_ := Aside0.mk (below_step (bb_) hb); clear HO_3; clear HO_4; clear HO_5; clear HO_6; clear HB; have HO_3 := n0_; have HO_4 := n1_; have HO_5 := n2_; have HO_6 := n3_; have HB := n4_; clear n0_ n1_ n2_ n3_ n4_; (try clear hb); (try clear hb2); (try clear hk); (try clear hi)))
                    go_roundg kj36
                    case measure => have := HK1.out; have := HK2.out; have := HJ36.out; omega
                    case rel => exact ⟨(wrap64 (x10_1 + 1)), (by first | rfl | (simp; done) | (simp [*]; done)), H', ⟨by have := HK1.out; have := HK2.out; have := HJ36.out; omega⟩, ⟨by (with_reducible repeat (first | apply Kd.R_alloc | apply Kd.R_drewN | apply Kd.R_drew)); exact HO_3.out⟩, ⟨by (with_reducible repeat (first | apply Kd.R_alloc | apply Kd.R_drewN | apply Kd.R_drew)); exact HO_4.out⟩, ⟨by (with_reducible repeat (first | apply Kd.R_alloc | apply Kd.R_drewN | apply Kd.R_drew)); exact HO_5.out⟩, ⟨by (with_reducible repeat (first | apply Kd.R_alloc | apply Kd.R_drewN | apply Kd.R_drew)); exact HO_6.out⟩, ⟨bb_⟩⟩
                  ·
                   replace c50 := Bool.eq_false_iff.mpr c50
                   subst c50
                   have H1 : (laws_FnPost.l0 kj36 t818 t819 t820 t827 (wrap64 (x10_1 + 1))) = some r := by rw [if_neg (show ¬ (false = true) by decide)] at H; exact H
                   clear H
                   have H := H1
                   clear H1
                   have H' := Aside0.mk H
                   clear H
                   have p852 : 0 ≤ (x10_1 : Int) := of_decide_eq_true (by first | (with_reducible assumption) | assumption)
                   have q852 : x10_1 < (t819.length : Int) := of_decide_eq_true (by first | (with_reducible assumption) | assumption)
                   obtain ⟨ad852, e852, hx852_0, hx852_1, hx852_2⟩ := at_T61 (Kd.R_reads' HO_4.out).2.2 x10_1 p852 q852
                   obtain rfl : ad844 = ad852 := (by injection e852)
                   replace p852 := eq_true p852
                   replace q852 := eq_true q852
                   go_wp2_with (first | ((with_reducible refine gate_callee (f := 24) rfl ?_); refine goesL_ (some 155) rfl rfl Try.func24 (by kernel_rfl) rfl #[.slice Ao18 t818.length co18, .int .i64 ((rd_T61 t819 x10_1).f1)] rfl (by (try simp only [List.map_toArray, List.map_cons, List.map_nil]); first | done | rfl | (simp only [List.length_drop, List.length_take]; rfl)) ?_; (with_reducible refine (spec_BalsSum.calls kj36 _ _ t818 ((rd_T61 t819 x10_1).f1) t853 false _ ?side1 ?side2 A48.out).mono ?_); (case side1 => repeat (first | exact (Kd.R_reads' HO_3.out).2.2 | (with_reducible refine Kd.C_alloc ?_ _) | (with_reducible refine Kd.C_drewN ?_ _) | (with_reducible refine Kd.C_drew ?_))); (case side2 => exact (Kd.R_reads' HO_3.out).2.1); rintro e w57 ⟨rfl, hb⟩; refine ⟨_, rfl, ?_⟩; have n0_ := Aside0.mk (Kd.R_below (by (with_reducible repeat (first | apply Kd.R_alloc | apply Kd.R_drewN | apply Kd.R_drew)); exact HO_3.out) hb); have n1_ := Aside0.mk (Kd.R_below (by (with_reducible repeat (first | apply Kd.R_alloc | apply Kd.R_drewN | apply Kd.R_drew)); exact HO_4.out) hb); have n2_ := Aside0.mk (Kd.R_below (by (with_reducible repeat (first | apply Kd.R_alloc | apply Kd.R_drewN | apply Kd.R_drew)); exact HO_5.out) hb); have n3_ := Aside0.mk (Kd.R_below (by (with_reducible repeat (first | apply Kd.R_alloc | apply Kd.R_drewN | apply Kd.R_drew)); exact HO_6.out) hb); have n4_ := Aside0.mk (below_step (bb_) hb); clear HO_3; clear HO_4; clear HO_5; clear HO_6; clear HB; have HO_3 := n0_; have HO_4 := n1_; have HO_5 := n2_; have HO_6 := n3_; have HB := n4_; clear n0_ n1_ n2_ n3_ n4_; (try clear hb); (try clear hb2); (try clear hk); (try clear hi); have p855 : 0 ≤ (x10_1 : Int) := of_decide_eq_true (by first | (with_reducible assumption) | assumption); have q855 : x10_1 < (t819.length : Int) := of_decide_eq_true (by first | (with_reducible assumption) | assumption); obtain ⟨ad855, e855, hx855_0, hx855_1, hx855_2⟩ := at_T61 (Kd.R_reads' HO_4.out).2.2 x10_1 p855 q855; obtain rfl : ad844 = ad855 := (by injection e855); replace p855 := eq_true p855; replace q855 := eq_true q855) | ((with_reducible refine gate_callee (f := 25) rfl ?_); refine goesL_ (some 165) rfl rfl Try.func25 (by kernel_rfl) rfl #[.slice Ao40 t827.length co40, .int .i64 ((rd_T61 t819 x10_1).f1)] rfl (by (try simp only [List.map_toArray, List.map_cons, List.map_nil]); first | done | rfl | (simp only [List.length_drop, List.length_take]; rfl)) ?_; (with_reducible refine (impl_BalsSum.calls kj36 _ _ t827 ((rd_T61 t819 x10_1).f1) t856 t857 _ ?side1 ?side2 A49.out).mono ?_); (case side1 => repeat (first | exact (Kd.R_reads' HO_6.out).2.2 | (with_reducible refine Kd.C_alloc ?_ _) | (with_reducible refine Kd.C_drewN ?_ _) | (with_reducible refine Kd.C_drew ?_))); (case side2 => exact (Kd.R_reads' HO_6.out).2.1); rintro e w58 ⟨rfl, hb⟩; refine ⟨_, rfl, ?_⟩; have n0_ := Aside0.mk (Kd.R_below (by (with_reducible repeat (first | apply Kd.R_alloc | apply Kd.R_drewN | apply Kd.R_drew)); exact HO_3.out) hb); have n1_ := Aside0.mk (Kd.R_below (by (with_reducible repeat (first | apply Kd.R_alloc | apply Kd.R_drewN | apply Kd.R_drew)); exact HO_4.out) hb); have n2_ := Aside0.mk (Kd.R_below (by (with_reducible repeat (first | apply Kd.R_alloc | apply Kd.R_drewN | apply Kd.R_drew)); exact HO_5.out) hb); have n3_ := Aside0.mk (Kd.R_below (by (with_reducible repeat (first | apply Kd.R_alloc | apply Kd.R_drewN | apply Kd.R_drew)); exact HO_6.out) hb); have n4_ := Aside0.mk (below_step (bb_) hb); clear HO_3; clear HO_4; clear HO_5; clear HO_6; clear HB; have HO_3 := n0_; have HO_4 := n1_; have HO_5 := n2_; have HO_6 := n3_; have HB := n4_; clear n0_ n1_ n2_ n3_ n4_; (try clear hb); (try clear hb2); (try clear hk); (try clear hi)))
                   go_roundg kj36
                   case measure => have := HK1.out; have := HK2.out; have := HJ36.out; omega
                   case rel => exact ⟨(wrap64 (x10_1 + 1)), (by first | rfl | (simp; done) | (simp [*]; done)), H', ⟨by have := HK1.out; have := HK2.out; have := HJ36.out; omega⟩, ⟨by (with_reducible repeat (first | apply Kd.R_alloc | apply Kd.R_drewN | apply Kd.R_drew)); exact HO_3.out⟩, ⟨by (with_reducible repeat (first | apply Kd.R_alloc | apply Kd.R_drewN | apply Kd.R_drew)); exact HO_4.out⟩, ⟨by (with_reducible repeat (first | apply Kd.R_alloc | apply Kd.R_drewN | apply Kd.R_drew)); exact HO_5.out⟩, ⟨by (with_reducible repeat (first | apply Kd.R_alloc | apply Kd.R_drewN | apply Kd.R_drew)); exact HO_6.out⟩, ⟨bb_⟩⟩
                 ·
                  rw [if_neg c47] at H
                  exact absurd H (by simp)
                ·
                 rw [if_neg c46] at H
                 exact absurd H (by simp)
            ·
             rw [if_neg c34] at H
             exact absurd H (by simp)
           ·
            rw [if_neg c33] at H
            exact absurd H (by simp)
       ·
        rw [if_neg c23] at H
        have c23b0 : decide (x10_1 < (t819.length : Int)) = false := decide_eq_false c23
        clear c23
        replace H := Option.bind_eq_some_iff.mp H
        obtain ⟨t837, A590, H⟩ := H
        replace H : (if t837 = true then ((impl_LegsOk.f k1 t819).bind fun t838 => (some t838)) else (none)) = some r := H
        have A59 := Aside0.mk A590
        clear A590
        by_cases c60 : t837 = true
        ·
         subst c60
         have H1 : ((impl_LegsOk.f k1 t819).bind fun t838 => (some t838)) = some r := by rw [if_pos rfl] at H; exact H
         clear H
         have H := H1
         clear H1
         replace H := Option.bind_eq_some_iff.mp H
         obtain ⟨t838, A610, H⟩ := H
         replace H : (some t838) = some r := H
         have A61 := Aside0.mk A610
         clear A610
         obtain rfl := Option.some.inj H
         obtain ⟨Ao62, co62, eo62⟩ := Kd.R_slice HO_6.out
         subst eo62
         go_wp2_with (first | ((with_reducible refine gate_callee (f := 15) rfl ?_); refine goesL_ (some 178) rfl rfl Try.func15 (by kernel_rfl) rfl #[.slice Ao62 t827.length co62] rfl (by (try simp only [List.map_toArray, List.map_cons, List.map_nil]); first | done | rfl | (simp only [List.length_drop, List.length_take]; rfl)) ?_; (with_reducible refine (impl_BalsOk.calls k1 _ _ t827 true _ ?side1 ?side2 A59.out).mono ?_); (case side1 => repeat (first | exact (Kd.R_reads' HO_6.out).2.2 | (with_reducible refine Kd.C_alloc ?_ _) | (with_reducible refine Kd.C_drewN ?_ _) | (with_reducible refine Kd.C_drew ?_))); (case side2 => exact (Kd.R_reads' HO_6.out).2.1); rintro e w63 ⟨rfl, hb⟩; refine ⟨_, rfl, ?_⟩; have n0_ := Aside0.mk (Kd.R_below (by (with_reducible repeat (first | apply Kd.R_alloc | apply Kd.R_drewN | apply Kd.R_drew)); exact HO_3.out) hb); have n1_ := Aside0.mk (Kd.R_below (by (with_reducible repeat (first | apply Kd.R_alloc | apply Kd.R_drewN | apply Kd.R_drew)); exact HO_4.out) hb); have n2_ := Aside0.mk (Kd.R_below (by (with_reducible repeat (first | apply Kd.R_alloc | apply Kd.R_drewN | apply Kd.R_drew)); exact HO_5.out) hb); have n3_ := Aside0.mk (Kd.R_below (by (with_reducible repeat (first | apply Kd.R_alloc | apply Kd.R_drewN | apply Kd.R_drew)); exact HO_6.out) hb); have n4_ := Aside0.mk (below_step (bb_) hb); clear HO_3; clear HO_4; clear HO_5; clear HO_6; clear HB; have HO_3 := n0_; have HO_4 := n1_; have HO_5 := n2_; have HO_6 := n3_; have HB := n4_; clear n0_ n1_ n2_ n3_ n4_; (try clear hb); (try clear hb2); (try clear hk); (try clear hi)) | (go_at_call 20; (with_reducible refine (impl_LegsOk.calls k1 _ _ t819 t838 _ ?side1 ?side2 A61.out).mono ?_); (case side1 => repeat (first | exact (Kd.R_reads' HO_4.out).2.2 | (with_reducible refine Kd.C_alloc ?_ _) | (with_reducible refine Kd.C_drewN ?_ _) | (with_reducible refine Kd.C_drew ?_))); (case side2 => exact (Kd.R_reads' HO_4.out).2.1); rintro e w64 ⟨rfl, hb⟩; have n0_ := Aside0.mk (Kd.R_below (by (with_reducible repeat (first | apply Kd.R_alloc | apply Kd.R_drewN | apply Kd.R_drew)); exact HO_3.out) hb); have n1_ := Aside0.mk (Kd.R_below (by (with_reducible repeat (first | apply Kd.R_alloc | apply Kd.R_drewN | apply Kd.R_drew)); exact HO_4.out) hb); have n2_ := Aside0.mk (Kd.R_below (by (with_reducible repeat (first | apply Kd.R_alloc | apply Kd.R_drewN | apply Kd.R_drew)); exact HO_5.out) hb); have n3_ := Aside0.mk (Kd.R_below (by (with_reducible repeat (first | apply Kd.R_alloc | apply Kd.R_drewN | apply Kd.R_drew)); exact HO_6.out) hb); have n4_ := Aside0.mk (below_step (bb_) hb); clear HO_3; clear HO_4; clear HO_5; clear HO_6; clear HB; have HO_3 := n0_; have HO_4 := n1_; have HO_5 := n2_; have HO_6 := n3_; have HB := n4_; clear n0_ n1_ n2_ n3_ n4_; (try clear hb); (try clear hb2); (try clear hk); (try clear hi)))
         go_ret
         exact ⟨by first | rfl | (simp [errW_none, errW_some] <;> rfl) | (simp [*, errW_none, errW_some] <;> rfl), bb_⟩
        ·
         replace c60 := Bool.eq_false_iff.mpr c60
         subst c60
         have H1 : (none) = some r := by rw [if_neg (show ¬ (false = true) by decide)] at H; exact H
         clear H
         have H := H1
         clear H1
         exact absurd H (by simp)
    ·
     rw [if_neg c16] at H
     have c16b0 : (t828 == 0) = false := beq_eq_false_iff_ne.mpr c16
     have c16b1 : (t828 != 0) = true := bne_iff_ne.mpr c16
     replace H := Option.bind_eq_some_iff.mp H
     obtain ⟨t835, A650, H⟩ := H
     replace H : (if t835 = true then ((impl_LegsOk.f k t819).bind fun t836 => (some ((t828 == 2) == (!t836)))) else (none)) = some r := H
     have A65 := Aside0.mk A650
     clear A650
     by_cases c66 : t835 = true
     ·
      subst c66
      have H1 : ((impl_LegsOk.f k t819).bind fun t836 => (some ((t828 == 2) == (!t836)))) = some r := by rw [if_pos rfl] at H; exact H
      clear H
      have H := H1
      clear H1
      replace H := Option.bind_eq_some_iff.mp H
      obtain ⟨t836, A670, H⟩ := H
      replace H : (some ((t828 == 2) == (!t836))) = some r := H
      have A67 := Aside0.mk A670
      clear A670
      obtain rfl := Option.some.inj H
      go_enter Try.func11, Try.ntmps11
      go_wp2_with (first | ((with_reducible refine gate_callee (f := 36) rfl ?_); refine goesL_ (some 20) rfl rfl Try.func36 (by kernel_rfl) rfl #[.slice A0 l0.length c0] rfl (by (try simp only [List.map_toArray, List.map_cons, List.map_nil]); first | done | rfl | (simp only [List.length_drop, List.length_take]; rfl)) ?_; (with_reducible refine (laws_big.calls _ _ l0 false _ ?side1 ?side2 A2.out).mono ?_); (case side1 => repeat (first | exact HR0.out | (with_reducible refine Kd.C_alloc ?_ _) | (with_reducible refine Kd.C_drewN ?_ _) | (with_reducible refine Kd.C_drew ?_))); (case side2 => exact HC0.out); rintro e w' ⟨rfl, ⟨nd, rfl⟩⟩; refine ⟨_, rfl, ?_⟩) | ((with_reducible refine gate_callee (f := 38) rfl ?_); refine goesL_ (some 23) rfl rfl Try.func38 (by kernel_rfl) rfl #[.slice A0 l0.length c0] rfl (by (try simp only [List.map_toArray, List.map_cons, List.map_nil]); first | done | rfl | (simp only [List.length_drop, List.length_take]; rfl)) ?_; (with_reducible refine (spec_DrawBalsPost.calls k _ _ l0 t818 t819 t820 _ ?side1 ?side2 A4.out).mono ?_); (case side1 => repeat (first | exact HR0.out | (with_reducible refine Kd.C_alloc ?_ _) | (with_reducible refine Kd.C_drewN ?_ _) | (with_reducible refine Kd.C_drew ?_))); (case side2 => exact HC0.out); rintro e w68 ⟨v821, v823, v825, rfl, ho0, ho1, ho2, hb⟩; refine ⟨_, rfl, ?_⟩; have n0_ := Aside0.mk (Kd.R_lower ho0 (below_size (bb_))); have n1_ := Aside0.mk (Kd.R_lower ho1 (below_size (bb_))); have n2_ := Aside0.mk (Kd.R_lower ho2 (below_size (bb_))); have n3_ := Aside0.mk (below_step (bb_) hb); clear HB; have HO822 := n0_; have HO824 := n1_; have HO826 := n2_; have HB := n3_; clear n0_ n1_ n2_ n3_; (try clear hb); (try clear hb2); (try clear hk); (try clear hi); (try clear ho0); (try clear ho1); (try clear ho2); obtain ⟨Ao69, co69, eo69⟩ := Kd.R_slice HO822.out; subst eo69; obtain ⟨Ao70, co70, eo70⟩ := Kd.R_slice HO824.out; subst eo70; obtain ⟨Ao71, co71, eo71⟩ := Kd.R_slice HO826.out; subst eo71) | ((with_reducible refine gate_callee (f := 32) rfl ?_); refine goesL_ (some 31) rfl rfl Try.func32 (by kernel_rfl) rfl #[.slice Ao69 t818.length co69, .slice Ao70 t819.length co70, .slice Ao71 t820.length co71] rfl (by (try simp only [List.map_toArray, List.map_cons, List.map_nil]); first | done | rfl | (simp only [List.length_drop, List.length_take]; rfl)) ?_; (with_reducible refine (impl_BalsPost.calls k _ _ t818 _ _ t819 _ _ t820 t827 t828 _ ?side1 ?side2 ?side3 ?side4 ?side5 ?side6 A5.out).mono ?_); (case side1 => repeat (first | exact (Kd.R_reads' HO822.out).2.2 | (with_reducible refine Kd.C_alloc ?_ _) | (with_reducible refine Kd.C_drewN ?_ _) | (with_reducible refine Kd.C_drew ?_))); (case side2 => exact (Kd.R_reads' HO822.out).2.1); (case side3 => repeat (first | exact (Kd.R_reads' HO824.out).2.2 | (with_reducible refine Kd.C_alloc ?_ _) | (with_reducible refine Kd.C_drewN ?_ _) | (with_reducible refine Kd.C_drew ?_))); (case side4 => exact (Kd.R_reads' HO824.out).2.1); (case side5 => repeat (first | exact (Kd.R_reads' HO826.out).2.2 | (with_reducible refine Kd.C_alloc ?_ _) | (with_reducible refine Kd.C_drewN ?_ _) | (with_reducible refine Kd.C_drew ?_))); (case side6 => exact (Kd.R_reads' HO826.out).2.1); rintro e w72 ⟨v829, rfl, ho0, hb⟩; refine ⟨_, rfl, ?_⟩; have n0_ := Aside0.mk (Kd.R_elder' (by (with_reducible repeat (first | apply Kd.R_alloc | apply Kd.R_drewN | apply Kd.R_drew)); exact HO822.out) (Kd.R_base ho0) hb); have n1_ := Aside0.mk (Kd.R_below (by (with_reducible repeat (first | apply Kd.R_alloc | apply Kd.R_drewN | apply Kd.R_drew)); exact HO824.out) hb); have n2_ := Aside0.mk (Kd.R_below (by (with_reducible repeat (first | apply Kd.R_alloc | apply Kd.R_drewN | apply Kd.R_drew)); exact HO826.out) hb); have n3_ := Aside0.mk (Kd.R_lower (Kd.R_new' ho0 (Kd.R_lt (by (with_reducible repeat (first | apply Kd.R_alloc | apply Kd.R_drewN | apply Kd.R_drew)); exact HO822.out))) (below_size (bb_))); have n4_ := Aside0.mk (below_step (bb_) hb); clear HO822; clear HO824; clear HO826; clear HB; have HO822 := n0_; have HO824 := n1_; have HO826 := n2_; have HO830 := n3_; have HB := n4_; clear n0_ n1_ n2_ n3_ n4_; (try clear hb); (try clear hb2); (try clear hk); (try clear hi); (try clear ho0)) | ((with_reducible refine gate_callee (f := 30) rfl ?_); refine goesL_ (some 38) rfl rfl Try.func30 (by kernel_rfl) rfl #[.slice Ao69 t818.length co69, .slice Ao70 t819.length co70, .slice Ao71 t820.length co71] rfl (by (try simp only [List.map_toArray, List.map_cons, List.map_nil]); first | done | rfl | (simp only [List.length_drop, List.length_take]; rfl)) ?_; (with_reducible refine (spec_BalsPost.calls k _ _ t818 _ _ t819 _ _ t820 t831 t832 _ ?side1 ?side2 ?side3 ?side4 ?side5 ?side6 A6.out).mono ?_); (case side1 => repeat (first | exact (Kd.R_reads' HO822.out).2.2 | (with_reducible refine Kd.C_alloc ?_ _) | (with_reducible refine Kd.C_drewN ?_ _) | (with_reducible refine Kd.C_drew ?_))); (case side2 => exact (Kd.R_reads' HO822.out).2.1); (case side3 => repeat (first | exact (Kd.R_reads' HO824.out).2.2 | (with_reducible refine Kd.C_alloc ?_ _) | (with_reducible refine Kd.C_drewN ?_ _) | (with_reducible refine Kd.C_drew ?_))); (case side4 => exact (Kd.R_reads' HO824.out).2.1); (case side5 => repeat (first | exact (Kd.R_reads' HO826.out).2.2 | (with_reducible refine Kd.C_alloc ?_ _) | (with_reducible refine Kd.C_drewN ?_ _) | (with_reducible refine Kd.C_drew ?_))); (case side6 => exact (Kd.R_reads' HO826.out).2.1); rintro e w73 ⟨v833, rfl, ho0, hb⟩; refine ⟨_, rfl, ?_⟩; have n0_ := Aside0.mk (Kd.R_elder' (by (with_reducible repeat (first | apply Kd.R_alloc | apply Kd.R_drewN | apply Kd.R_drew)); exact HO822.out) (Kd.R_base ho0) hb); have n1_ := Aside0.mk (Kd.R_below (by (with_reducible repeat (first | apply Kd.R_alloc | apply Kd.R_drewN | apply Kd.R_drew)); exact HO824.out) hb); have n2_ := Aside0.mk (Kd.R_below (by (with_reducible repeat (first | apply Kd.R_alloc | apply Kd.R_drewN | apply Kd.R_drew)); exact HO826.out) hb); have n3_ := Aside0.mk (Kd.R_elder' (by (with_reducible repeat (first | apply Kd.R_alloc | apply Kd.R_drewN | apply Kd.R_drew)); exact HO830.out) (Kd.R_base ho0) hb); have n4_ := Aside0.mk (Kd.R_lower (Kd.R_new' (Kd.R_new' ho0 (Kd.R_lt (by (with_reducible repeat (first | apply Kd.R_alloc | apply Kd.R_drewN | apply Kd.R_drew)); exact HO822.out))) (Kd.R_lt (by (with_reducible repeat (first | apply Kd.R_alloc | apply Kd.R_drewN | apply Kd.R_drew)); exact HO830.out))) (below_size (bb_))); have n5_ := Aside0.mk (below_step (bb_) hb); clear HO822; clear HO824; clear HO826; clear HO830; clear HB; have HO822 := n0_; have HO824 := n1_; have HO826 := n2_; have HO830 := n3_; have HO834 := n4_; have HB := n5_; clear n0_ n1_ n2_ n3_ n4_ n5_; (try clear hb); (try clear hb2); (try clear hk); (try clear hi); (try clear ho0); obtain ⟨Ao74, co74, eo74⟩ := Kd.R_slice HO830.out; subst eo74) | ((with_reducible refine gate_callee (f := 39) rfl ?_); refine goesL_ (some 53) rfl rfl Try.func39 (by kernel_rfl) rfl #[.slice Ao74 t827.length co74, .slice Ao69 t818.length co69] rfl (by (try simp only [List.map_toArray, List.map_cons, List.map_nil]); first | done | rfl | (simp only [List.length_drop, List.length_take]; rfl)) ?_; (with_reducible refine (laws_sameBals.calls k _ _ t827 _ _ t818 true _ ?side1 ?side2 ?side3 ?side4 A65.out).mono ?_); (case side1 => repeat (first | exact (Kd.R_reads' HO830.out).2.2 | (with_reducible refine Kd.C_alloc ?_ _) | (with_reducible refine Kd.C_drewN ?_ _) | (with_reducible refine Kd.C_drew ?_))); (case side2 => exact (Kd.R_reads' HO830.out).2.1); (case side3 => repeat (first | exact (Kd.R_reads' HO822.out).2.2 | (with_reducible refine Kd.C_alloc ?_ _) | (with_reducible refine Kd.C_drewN ?_ _) | (with_reducible refine Kd.C_drew ?_))); (case side4 => exact (Kd.R_reads' HO822.out).2.1); rintro e w' ⟨rfl, ⟨nd, rfl⟩⟩; refine ⟨_, rfl, ?_⟩) | (go_at_call 20; (with_reducible refine (impl_LegsOk.calls k _ _ t819 t836 _ ?side1 ?side2 A67.out).mono ?_); (case side1 => repeat (first | exact (Kd.R_reads' HO824.out).2.2 | (with_reducible refine Kd.C_alloc ?_ _) | (with_reducible refine Kd.C_drewN ?_ _) | (with_reducible refine Kd.C_drew ?_))); (case side2 => exact (Kd.R_reads' HO824.out).2.1); rintro e w75 ⟨rfl, hb⟩; have n0_ := Aside0.mk (Kd.R_below (by (with_reducible repeat (first | apply Kd.R_alloc | apply Kd.R_drewN | apply Kd.R_drew)); exact HO822.out) hb); have n1_ := Aside0.mk (Kd.R_below (by (with_reducible repeat (first | apply Kd.R_alloc | apply Kd.R_drewN | apply Kd.R_drew)); exact HO824.out) hb); have n2_ := Aside0.mk (Kd.R_below (by (with_reducible repeat (first | apply Kd.R_alloc | apply Kd.R_drewN | apply Kd.R_drew)); exact HO826.out) hb); have n3_ := Aside0.mk (Kd.R_below (by (with_reducible repeat (first | apply Kd.R_alloc | apply Kd.R_drewN | apply Kd.R_drew)); exact HO830.out) hb); have n4_ := Aside0.mk (Kd.R_below (by (with_reducible repeat (first | apply Kd.R_alloc | apply Kd.R_drewN | apply Kd.R_drew)); exact HO834.out) hb); have n5_ := Aside0.mk (below_step (bb_) hb); clear HO822; clear HO824; clear HO826; clear HO830; clear HO834; clear HB; have HO822 := n0_; have HO824 := n1_; have HO826 := n2_; have HO830 := n3_; have HO834 := n4_; have HB := n5_; clear n0_ n1_ n2_ n3_ n4_ n5_; (try clear hb); (try clear hb2); (try clear hk); (try clear hi)))
      go_ret
      exact ⟨by first | rfl | (simp [errW_none, errW_some] <;> rfl) | (simp [*, errW_none, errW_some] <;> rfl), bb_⟩
     ·
      replace c66 := Bool.eq_false_iff.mpr c66
      subst c66
      have H1 : (none) = some r := by rw [if_neg (show ¬ (false = true) by decide)] at H; exact H
      clear H
      have H := H1
      clear H1
      exact absurd H (by simp)
  ·
   rw [if_neg c7] at H
   exact absurd H (by simp)
def laws_FnPost.Pure : Prop := ∀ (l0 : List Int), l0.length ≤ maxLen → l0.length * 1 ≤ 140737488351232 → (∀ x ∈ l0, (Lit.int .u8 x).wf = true) → ∃ k, laws_FnPost.f k l0 = some true
theorem laws_FnPost.walk (P : laws_FnPost.Pure) (a0 : Option Addr) (len0 cap0 : Nat) (z0 : List Int) (w : World) (w0 : (a0 = none ∧ len0 = 0 ∧ cap0 = 0 ∧ z0 = []) ∨ ∃ x, a0 = some x ∧ len0 ≤ cap0 ∧ cap0 ≤ maxLen ∧ z0.length = cap0 ∧ (∀ i, i < z0.length → w.cell? (x.add i) = some (.int .u8 (z0.getD i 0))) ∧ ∀ n ∈ z0, (Lit.int .u8 n).wf = true) (y0 : len0 * 1 ≤ 140737488351232) :
 Calls Try.prog 11 #[.slice a0 len0 cap0] w fun e w' => e = .returned (.bool true) ∧ Below w.heap.size w w' := by
 obtain ⟨l0, rfl, hr0, hm0, hw0, hc0⟩ := ReadsInt.ofRowC w0
 obtain ⟨k, h⟩ := P l0 hm0 y0 hw0
 refine (laws_FnPost.calls k _ _ l0 true w (Kd.C_of_reads (d := (0 : Int)) (h1 := fun _ => rfl) hr0) hc0 h).mono ?_
 rintro e w' ⟨rfl, hd⟩
 exact ⟨rfl, hd⟩
end Go.Proofs.Ytpcjpjjkaplebaa.P
namespace Go.Proofs.Ytpcjpjjkaplebaa.EV
open Go Go.RowKit Go.Proofs.YtpcjpjjkaplebaaW.PrintWords
theorem w64_in (n : Int) (h0 : -9223372036854775808 ≤ n) (h1 : n ≤ 9223372036854775807) : wrap64 n = n := by unfold wrap64; omega
theorem w_succ {i n : Nat} (h : i < n) (hn : n ≤ 9223372036854775807) : wrap64 ((i : Int) + 1) = ((i + 1 : Nat) : Int) := by unfold wrap64; omega
theorem w_pred {i n : Nat} (h : i < n) (hp : 0 < i) (hn : n ≤ 9223372036854775807) : wrap64 ((i : Int) - 1) = ((i - 1 : Nat) : Int) := by unfold wrap64; omega
theorem Ev_one {α : Type} {g : Nat → Option α} {r : α} (h : ∀ k, g (k + 1) = some r) : Ev g r := ⟨1, fun k hk => by
  obtain ⟨k, rfl⟩ : ∃ m, k = m + 1 := ⟨k - 1, by omega⟩
  exact h k⟩
theorem Ev_all_k {α : Type} {g : Nat → Option α} {r : α} (h : ∀ k, g k = some r) : Ev g r := ⟨0, fun k _ => h k⟩
theorem Ev_bind {α β : Type} {g : Nat → Option α} {f : Nat → α → Option β} {a : α} {r : β} (h : Ev g a) (k : Ev (fun n => f n a) r) : Ev (fun n => (g n).bind (f n)) r := Ev.bind h k
theorem Ev_asks (l : Nat → Int → Option Bool) (n : Nat) (G : Nat → Prop) (fin : Bool) (h0 : Ev (fun k => l k (n : Int)) fin)
    (hs : ∀ i : Nat, i < n → (G i ∧ ∀ k, l (k + 1) (i : Int) = l k ((i + 1 : Nat) : Int)) ∨ (¬ G i ∧ ∀ k, l (k + 1) (i : Int) = some false)) :
    ∀ (d i : Nat), n - i = d → i ≤ n → ∃ r, Ev (fun k => l k (i : Int)) r ∧ (r = true ↔ (∀ j, i ≤ j → j < n → G j) ∧ fin = true) := by
  intro d
  induction d with
  | zero =>
    intro i hd hi
    obtain rfl : i = n := by omega
    exact ⟨fin, h0, ⟨fun h => ⟨fun j h1 h2 => by omega, h⟩, fun h => h.2⟩⟩
  | succ d ih =>
    intro i hd hi
    rcases hs i (by omega) with ⟨hg, he⟩ | ⟨hg, he⟩
    · obtain ⟨r, hr, hiff⟩ := ih (i + 1) (by omega) (by omega)
      refine ⟨r, Ev.step he hr, ?_⟩
      rw [hiff]
      constructor
      · rintro ⟨h1, h2⟩
        refine ⟨fun j h3 h4 => ?_, h2⟩
        rcases Nat.eq_or_lt_of_le h3 with h5 | h5
        · exact h5 ▸ hg
        · exact h1 j h5 h4
      · rintro ⟨h1, h2⟩
        exact ⟨fun j h3 h4 => h1 j (by omega) h4, h2⟩
    · refine ⟨false, Ev_one he, ⟨fun h => Bool.noConfusion h, fun h => absurd (h.1 i (Nat.le_refl _) (by omega)) hg⟩⟩
theorem Ev_goes {σ ρ : Type} (l : Nat → σ → Int → Option ρ) (n : Nat) (F : Nat → σ → ρ) (Inv : Nat → σ → Prop)
    (h0 : ∀ s, Inv n s → Ev (fun k => l k s (n : Int)) (F n s))
    (hs : ∀ (i : Nat) s, i < n → Inv i s → (Ev (fun k => l k s (i : Int)) (F i s)) ∨ ∃ s', Inv (i + 1) s' ∧ F (i + 1) s' = F i s ∧ ∀ k, l (k + 1) s (i : Int) = l k s' ((i + 1 : Nat) : Int)) :
    ∀ (d i : Nat) s, n - i = d → i ≤ n → Inv i s → Ev (fun k => l k s (i : Int)) (F i s) := by
  intro d
  induction d with
  | zero =>
    intro i s hd hi hinv
    obtain rfl : i = n := by omega
    exact h0 s hinv
  | succ d ih =>
    intro i s hd hi hinv
    rcases hs i s (by omega) hinv with h | ⟨s', h1, h2, h3⟩
    · exact h
    · exact h2 ▸ Ev.step h3 (ih (i + 1) s' (by omega) (by omega) h1)
theorem Ev_goes' {σ ρ : Type} (l : Nat → σ → Int → Option ρ) (n : Nat) (F : Nat → σ → ρ) (Inv : Nat → σ → Prop)
    (h0 : ∀ s, Inv n s → Ev (fun k => l k s (n : Int)) (F n s))
    (hs : ∀ (i : Nat) s, i < n → Inv i s → (Ev (fun k => l k s (i : Int)) (F i s)) ∨ ∃ s', Inv (i + 1) s' ∧ F (i + 1) s' = F i s ∧ ∀ r, Ev (fun k => l k s' ((i + 1 : Nat) : Int)) r → Ev (fun k => l k s (i : Int)) r) :
    ∀ (d i : Nat) s, n - i = d → i ≤ n → Inv i s → Ev (fun k => l k s (i : Int)) (F i s) := by
  intro d
  induction d with
  | zero =>
    intro i s hd hi hinv
    obtain rfl : i = n := by omega
    exact h0 s hinv
  | succ d ih =>
    intro i s hd hi hinv
    rcases hs i s (by omega) hinv with h | ⟨s', h1, h2, h3⟩
    · exact h
    · exact h2 ▸ h3 _ (ih (i + 1) s' (by omega) (by omega) h1)
theorem Ev_asks' (l : Nat → Int → Option Bool) (n : Nat) (G : Nat → Prop) (fin : Bool) (h0 : Ev (fun k => l k (n : Int)) fin)
    (hs : ∀ i : Nat, i < n → (G i ∧ ∀ r, Ev (fun k => l k ((i + 1 : Nat) : Int)) r → Ev (fun k => l k (i : Int)) r) ∨ (¬ G i ∧ Ev (fun k => l k (i : Int)) false)) :
    ∀ (d i : Nat), n - i = d → i ≤ n → ∃ r, Ev (fun k => l k (i : Int)) r ∧ (r = true ↔ (∀ j, i ≤ j → j < n → G j) ∧ fin = true) := by
  intro d
  induction d with
  | zero =>
    intro i hd hi
    obtain rfl : i = n := by omega
    exact ⟨fin, h0, ⟨fun h => ⟨fun j h1 h2 => by omega, h⟩, fun h => h.2⟩⟩
  | succ d ih =>
    intro i hd hi
    rcases hs i (by omega) with ⟨hg, he⟩ | ⟨hg, he⟩
    · obtain ⟨r, hr, hiff⟩ := ih (i + 1) (by omega) (by omega)
      refine ⟨r, he r hr, ?_⟩
      rw [hiff]
      constructor
      · rintro ⟨h1, h2⟩
        refine ⟨fun j h3 h4 => ?_, h2⟩
        rcases Nat.eq_or_lt_of_le h3 with h5 | h5
        · exact h5 ▸ hg
        · exact h1 j h5 h4
      · rintro ⟨h1, h2⟩
        exact ⟨fun j h3 h4 => h1 j (by omega) h4, h2⟩
    · exact ⟨false, he, ⟨fun h => Bool.noConfusion h, fun h => absurd (h.1 i (Nat.le_refl _) (by omega)) hg⟩⟩
theorem drop_getD {α : Type} (z : α) (l : List α) (i : Nat) (h : i < l.length) : l.drop i = l.getD i z :: l.drop (i + 1) := by
  rw [List.drop_eq_getElem_cons h, List.getD_eq_getElem?_getD, List.getElem?_eq_getElem h]
  rfl
end Go.Proofs.Ytpcjpjjkaplebaa.EV
namespace Go.Proofs.Ytpcjpjjkaplebaa.D1
open Go Go.RowKit Go.Proofs.Ytpcjpjjkaplebaa.P Go.Proofs.YtpcjpjjkaplebaaW.PrintWords Go.Proofs.YtpcjpjjkaplebaaW.PrintLast Go.Proofs.Ytpcjpjjkaplebaa.EV
theorem and255 (y : Int) : 0 ≤ Go.bits .and .i64 y 255 ∧ Go.bits .and .i64 y 255 ≤ 255 := by
  have h : (BitVec.ofInt IntKind.i64.bits y &&& BitVec.ofInt IntKind.i64.bits 255).toNat ≤ 255 := by
    rw [BitVec.toNat_and]
    exact Nat.le_trans Nat.and_le_right (by decide)
  simp only [Go.bits]
  generalize (BitVec.ofInt IntKind.i64.bits y &&& BitVec.ofInt IntKind.i64.bits 255).toNat = m at *
  rw [IntKind.wrap_i64]
  omega
def V (b : List Int) (i : Int) : Prop := 0 ≤ i ∧ i ≤ b.length ∧ b.length ≤ 140737488351232
theorem byte_ok (b : List Int) (i h : Int) (hv : V b i) : ∃ x i' h', spec_l1Byte.f b i h = some (x, i', h') ∧ 0 ≤ x ∧ x ≤ 255 ∧ V b i' := by
  obtain ⟨h0, h1, h2⟩ := hv
  unfold spec_l1Byte.f
  by_cases hi : i < (b.length : Int)
  · rw [if_pos hi, if_pos h0]
    refine ⟨_, _, _, rfl, (and255 _).1, (and255 _).2, ?_⟩
    rw [w64_in _ (by omega) (by omega)]
    exact ⟨by omega, by omega, h2⟩
  · rw [if_neg hi]
    exact ⟨_, _, _, rfl, (and255 _).1, (and255 _).2, h0, h1, h2⟩
theorem below_ok (b : List Int) (i h n : Int) (hv : V b i) (hn : n ≤ 4294967296) : ∃ x i' h', spec_l1Below.f b i h n = some (x, i', h') ∧ 0 ≤ x ∧ (0 < n → x < n) ∧ (n ≤ 0 → x = 0) ∧ V b i' := by
  unfold spec_l1Below.f
  by_cases h0 : n ≤ 0
  · rw [if_pos h0]
    exact ⟨_, _, _, rfl, by omega, fun h => by omega, fun _ => rfl, hv⟩
  · rw [if_neg h0]
    by_cases h1 : n ≤ 256
    · rw [if_pos h1]
      obtain ⟨x, i1, g1, e1, x0, x1, v1⟩ := byte_ok b i h hv
      rw [e1, Option.bind_some, if_neg (by omega)]
      refine ⟨_, _, _, rfl, ?_, fun _ => ?_, fun h => by omega, v1⟩
      · show 0 ≤ Int.tmod x n
        rw [Int.tmod_eq_emod_of_nonneg x0]
        exact Int.emod_nonneg _ (by omega)
      · show Int.tmod x n < n
        rw [Int.tmod_eq_emod_of_nonneg x0]
        exact Int.emod_lt_of_pos _ (by omega)
    · rw [if_neg h1]
      obtain ⟨x, i1, g1, e1, x0, x1, v1⟩ := byte_ok b i h hv
      rw [e1, Option.bind_some]
      obtain ⟨y, i2, g2, e2, y0, y1, v2⟩ := byte_ok b i1 g1 v1
      simp only [e2, Option.bind_some]
      obtain ⟨z, i3, g3, e3, z0, z1, v3⟩ := byte_ok b i2 g2 v2
      simp only [e3, Option.bind_some]
      obtain ⟨u, i4, g4, e4, u0, u1, v4⟩ := byte_ok b i3 g3 v3
      simp only [e4, Option.bind_some]
      rw [if_neg (by omega), w64_in (x * 16777216) (by omega) (by omega), w64_in (y * 65536) (by omega) (by omega), w64_in (z * 256) (by omega) (by omega),
        w64_in (x * 16777216 + y * 65536) (by omega) (by omega), w64_in (x * 16777216 + y * 65536 + z * 256) (by omega) (by omega), w64_in (x * 16777216 + y * 65536 + z * 256 + u) (by omega) (by omega)]
      refine ⟨_, _, _, rfl, ?_, fun _ => ?_, fun h => by omega, v4⟩
      · rw [Int.tmod_eq_emod_of_nonneg (by omega)]
        exact Int.emod_nonneg _ (by omega)
      · rw [Int.tmod_eq_emod_of_nonneg (by omega)]
        exact Int.emod_lt_of_pos _ (by omega)
theorem new_ok (l : List Int) (hl : l.length ≤ 140737488351232) : ∃ h, Ev (fun k => spec_l1New.f k l) (l, 0, h) := by
  have key : ∀ (d : Nat) (i : Nat) (h : Int), l.length - i = d → i ≤ l.length → ∃ h', Ev (fun k => spec_l1New.l0 k l h (i : Int)) (l, 0, h') := by
    intro d
    induction d with
    | zero =>
      intro i h hd hi
      exact ⟨h, Ev_one fun k => by simp only [spec_l1New.l0]; rw [if_neg (by omega)]⟩
    | succ d ih =>
      intro i h hd hi
      by_cases h4 : (i : Int) < 4000
      · obtain ⟨h', hr⟩ := ih (i + 1) (Go.bits .and .i64 (wrap64 ((wrap64 ((wrap64 (h * 131)) + (wrap64 (rd l (i : Int))))) + 7)) 1073741823) (by omega) (by omega)
        refine ⟨h', Ev.step (fun k => ?_) hr⟩
        simp only [spec_l1New.l0]
        rw [if_pos (by omega), if_pos h4, if_pos (by omega), w_succ (i := i) (n := l.length) (by omega) (by omega)]
      · exact ⟨h, Ev_one fun k => by simp only [spec_l1New.l0]; rw [if_pos (by omega), if_neg h4]⟩
  obtain ⟨h', hr⟩ := key l.length 0 (wrap64 (11029 + (l.length : Int))) (by omega) (by omega)
  exact ⟨h', Ev.congr (fun k => rfl) hr⟩
theorem once_ok (b : List Int) (i h n : Int) (hv : V b i) (hn : n ≤ 4294967296) : ∃ x i' h', spec_l1Once.f b i h n = some (x, i', h') ∧ V b i' := by
  unfold spec_l1Once.f
  obtain ⟨x, i1, g1, e1, _, _, _, v1⟩ := below_ok b i h n hv hn
  rw [e1]
  exact ⟨_, _, _, rfl, v1⟩
theorem pick_ok (b : List Int) (i h : Int) (l : List Int) (hv : V b i) (h0 : 0 < l.length) (hn : l.length ≤ 4294967296) : ∃ x i' h', spec_l1PickInt.f b i h l = some (x, i', h') ∧ x ∈ l ∧ V b i' := by
  unfold spec_l1PickInt.f
  obtain ⟨x, i1, g1, e1, x0, x1, _, v1⟩ := below_ok b i h l.length hv (by omega)
  have x2 := x1 (by omega)
  rw [e1, Option.bind_some, if_pos x0, if_pos x2]
  refine ⟨_, _, _, rfl, ?_, v1⟩
  show rd l x ∈ l
  unfold rd
  rw [List.getD_eq_getElem?_getD, List.getElem?_eq_getElem (by omega)]
  exact List.getElem_mem _
theorem drawAmount_ok (b : List Int) (i h : Int) (hv : V b i) : ∃ x i' h', spec_l1DrawAmount.f b i h = some (x, i', h') ∧ -9223372036854775808 ≤ x ∧ x ≤ 9223372036854775807 ∧ V b i' := by
  unfold spec_l1DrawAmount.f
  obtain ⟨x, i1, g1, e1, _, _, _, v1⟩ := below_ok b i h 8 hv (by decide)
  rw [e1, Option.bind_some]
  by_cases c0 : x = 0
  · simp only [if_pos c0]
    obtain ⟨y, i2, g2, e2, hy, v2⟩ := pick_ok b i1 g1 _ v1 (by decide : 0 < ([0, 1, (-1), 1000000000000000, (-1000000000000000), 1000000000000001, (-1000000000000001), 9223372036854775807, (-9223372036854775808)] : List Int).length) (by decide)
    rw [e2]
    refine ⟨_, _, _, rfl, ?_, ?_, v2⟩ <;> · simp only [List.mem_cons, List.mem_nil_iff, or_false] at hy; omega
  · simp only [if_neg c0]
    by_cases c1 : x = 1
    · simp only [if_pos c1]
      obtain ⟨y, i2, g2, e2, y0, y1, _, v2⟩ := below_ok b i1 g1 2000000000 v1 (by decide)
      have y2 := y1 (by decide)
      rw [e2]
      refine ⟨_, _, _, rfl, ?_, ?_, v2⟩ <;> · rw [w64_in _ (by omega) (by omega)]; omega
    · simp only [if_neg c1]
      by_cases c2 : x = 2
      · simp only [if_pos c2]
        obtain ⟨y, i2, g2, e2, y0, y1, _, v2⟩ := below_ok b i1 g1 5000 v1 (by decide)
        have y2 := y1 (by decide)
        rw [e2]
        refine ⟨_, _, _, rfl, ?_, ?_, v2⟩ <;> · rw [w64_in _ (by omega) (by omega)]; omega
      · simp only [if_neg c2]
        by_cases c3 : x = 3
        · simp only [if_pos c3]
          obtain ⟨y, i2, g2, e2, y0, y1, _, v2⟩ := below_ok b i1 g1 60000000 v1 (by decide)
          have y2 := y1 (by decide)
          rw [e2]
          exact ⟨_, _, _, rfl, by show _ ≤ y; omega, by show y ≤ _; omega, v2⟩
        · simp only [if_neg c3]
          obtain ⟨y, i2, g2, e2, y0, y1, _, v2⟩ := below_ok b i1 g1 1000 v1 (by decide)
          have y2 := y1 (by decide)
          rw [e2]
          exact ⟨_, _, _, rfl, by show _ ≤ y; omega, by show y ≤ _; omega, v2⟩
end Go.Proofs.Ytpcjpjjkaplebaa.D1
namespace Go.Proofs.Ytpcjpjjkaplebaa.I1
open Go Go.RowKit Go.Proofs.Ytpcjpjjkaplebaa.P Go.Proofs.YtpcjpjjkaplebaaW.PrintWords Go.Proofs.YtpcjpjjkaplebaaW.PrintLast
theorem in_i (a lo hi : Int) : impl_in.f a lo hi = some (decide (lo ≤ a ∧ a ≤ hi)) := by
  unfold impl_in.f
  by_cases h : a ≥ lo
  · rw [if_pos h]
    congr 1
    rw [Bool.eq_iff_iff, decide_eq_true_iff, decide_eq_true_iff]
    omega
  · rw [if_neg h]
    congr 1
    symm
    rw [decide_eq_false_iff_not]
    omega
theorem in_s (a lo hi : Int) : spec_l1In.f a lo hi = some (decide (lo ≤ a ∧ a ≤ hi)) := by
  unfold spec_l1In.f
  by_cases h : a ≥ lo
  · rw [if_pos h]
    congr 1
    rw [Bool.eq_iff_iff, decide_eq_true_iff, decide_eq_true_iff]
    omega
  · rw [if_neg h]
    congr 1
    symm
    rw [decide_eq_false_iff_not]
    omega
end Go.Proofs.Ytpcjpjjkaplebaa.I1
namespace Go.Proofs.Ytpcjpjjkaplebaa.N1
open Go Go.RowKit Go.Proofs.Ytpcjpjjkaplebaa.P Go.Proofs.YtpcjpjjkaplebaaW.PrintWords Go.Proofs.YtpcjpjjkaplebaaW.PrintLast Go.Proofs.Ytpcjpjjkaplebaa.EV Go.Proofs.Ytpcjpjjkaplebaa.I1
def No (a : Int) : Prop := 1 ≤ a ∧ a ≤ 1000
def Amt (a : Int) : Prop := -1000000000000000 ≤ a ∧ a ≤ 1000000000000000
instance (a : Int) : Decidable (No a) := by unfold No; exact inferInstance
instance (a : Int) : Decidable (Amt a) := by unfold Amt; exact inferInstance
theorem no_s (a : Int) : spec_l3No.f a = some (decide (No a)) := by unfold spec_l3No.f; rw [in_s]; rfl
theorem no_i (a : Int) : impl_isNo.f a = some (decide (No a)) := by unfold impl_isNo.f; rw [in_i]; rfl
theorem amt_s (a : Int) : spec_AmountOk.f a = some (decide (Amt a)) := by unfold spec_AmountOk.f; rw [in_s]; rfl
theorem amt_i (a : Int) : impl_AmountOk.f a = some (decide (Amt a)) := by unfold impl_AmountOk.f; rw [in_i]; rfl
end Go.Proofs.Ytpcjpjjkaplebaa.N1
namespace Go.Proofs.Ytpcjpjjkaplebaa.B1
open Go Go.RowKit Go.Proofs.Ytpcjpjjkaplebaa.P Go.Proofs.YtpcjpjjkaplebaaW.PrintWords Go.Proofs.YtpcjpjjkaplebaaW.PrintLast Go.Proofs.Ytpcjpjjkaplebaa.EV Go.Proofs.Ytpcjpjjkaplebaa.I1 Go.Proofs.Ytpcjpjjkaplebaa.N1
def Bef (a b c d : Int) : Prop := a < c ∨ (a = c ∧ b < d)
instance (a b c d : Int) : Decidable (Bef a b c d) := by unfold Bef; exact inferInstance
def cmp (a b c d : Int) : Int := if Bef a b c d then -1 else (if a = c ∧ b = d then 0 else 1)
theorem before_s (a b c d : Int) : spec_l4Before.f a b c d = some (decide (Bef a b c d)) := by
  unfold spec_l4Before.f
  by_cases h : a < c
  · rw [if_pos h, decide_eq_true (show Bef a b c d from .inl h)]
  · rw [if_neg h]
    by_cases h2 : a = c
    · rw [if_pos h2]
      congr 1
      rw [Bool.eq_iff_iff, decide_eq_true_iff, decide_eq_true_iff]
      exact ⟨fun g => .inr ⟨h2, g⟩, fun g => g.elim (fun g => absurd g h) (fun g => g.2)⟩
    · rw [if_neg h2, decide_eq_false (show ¬ Bef a b c d from fun g => g.elim h fun g => h2 g.1)]
theorem both_i (a b c d : Int) : Ev (fun k => impl_byBoth.f k a b c d) (cmp a b c d) := by
  unfold impl_byBoth.f
  have yes : Bef a b c d → Ev (fun k => impl_byBoth.j0 k a b c d true) (cmp a b c d) := fun h => Ev_one fun k => by
    simp only [impl_byBoth.j0]
    rw [if_pos trivial]
    unfold cmp
    rw [if_pos h]
  have no : ¬ Bef a b c d → Ev (fun k => impl_byBoth.j0 k a b c d false) (cmp a b c d) := fun h => Ev_one fun k => by
    simp only [impl_byBoth.j0]
    rw [if_neg (by decide)]
    unfold cmp
    rw [if_neg h]
    by_cases h1 : a = c
    · by_cases h2 : b = d
      · rw [if_pos h1, if_pos h2, if_pos ⟨h1, h2⟩]
      · rw [if_pos h1, if_neg h2, if_neg fun g => h2 g.2]
    · rw [if_neg h1, if_neg fun g => h1 g.1]
  by_cases h : a < c
  · exact Ev.congr (fun k => by rw [if_pos h]) (yes (.inl h))
  · by_cases h2 : a = c
    · by_cases h3 : b < d
      · exact Ev.congr (fun k => by rw [if_neg h, if_pos h2, decide_eq_true h3]) (yes (.inr ⟨h2, h3⟩))
      · exact Ev.congr (fun k => by rw [if_neg h, if_pos h2, decide_eq_false h3]) (no fun g => g.elim h fun g => h3 g.2)
    · exact Ev.congr (fun k => by rw [if_neg h, if_neg h2]) (no fun g => g.elim h fun g => h2 g.1)
theorem cmp_neg {a b c d : Int} : cmp a b c d ≥ 0 ↔ ¬ Bef a b c d := by
  unfold cmp
  by_cases h : Bef a b c d
  · rw [if_pos h]
    exact ⟨fun g => absurd g (by decide), fun g => absurd h g⟩
  · rw [if_neg h]
    refine ⟨fun _ => h, fun _ => ?_⟩
    split <;> decide
theorem cmp_zero {a b c d : Int} : cmp a b c d = 0 ↔ a = c ∧ b = d := by
  unfold cmp
  by_cases h : Bef a b c d
  · rw [if_pos h]
    refine ⟨fun g => absurd g (by decide), fun g => ?_⟩
    unfold Bef at h
    omega
  · rw [if_neg h]
    by_cases h2 : a = c ∧ b = d
    · rw [if_pos h2]; exact ⟨fun _ => h2, fun _ => rfl⟩
    · rw [if_neg h2]; exact ⟨fun g => absurd g (by decide), fun g => absurd g h2⟩
theorem rdB (l : List S58) (i : Nat) : rd_T58 l (i : Int) = l.getD i z58 := by unfold rd_T58; rw [Int.toNat_natCast]
def GoodB (l : List S58) (j : Nat) : Prop :=
  No (l.getD j z58).f0 ∧ No (l.getD j z58).f1 ∧ Amt (l.getD j z58).f2 ∧ (l.getD j z58).f2 ≠ 0 ∧ (0 < j → Bef (l.getD (j - 1) z58).f0 (l.getD (j - 1) z58).f1 (l.getD j z58).f0 (l.getD j z58).f1)
def OkB (l : List S58) : Prop := l.length ≤ 160 ∧ ∀ j, j < l.length → GoodB l j
noncomputable def okB (l : List S58) : Bool := @decide (OkB l) (Classical.propDecidable _)
theorem okB_iff (l : List S58) : okB l = true ↔ OkB l := by unfold okB; exact @decide_eq_true_iff _ (Classical.propDecidable _)
theorem okB_no {l : List S58} (h : ¬ OkB l) : okB l = false := by rw [Bool.eq_false_iff, Ne, okB_iff]; exact h
theorem balsOk_s (l : List S58) : Ev (fun k => spec_BalsOk.f k l) (okB l) := by
  unfold spec_BalsOk.f
  by_cases hn : (l.length : Int) > 160
  · rw [okB_no fun h => by have := h.1; omega]
    exact Ev_all_k fun k => by rw [if_pos hn]
  · obtain ⟨r, hr, hiff⟩ := Ev_asks (fun k i => spec_BalsOk.l0 k l i) l.length (GoodB l) true
      (Ev_one fun k => by simp only [spec_BalsOk.l0]; rw [if_neg (by omega)])
      (fun i hi => by
        have e : ∀ k, spec_BalsOk.l0 (k + 1) l (i : Int) = if No (l.getD i z58).f0 then (if No (l.getD i z58).f1 then (if Amt (l.getD i z58).f2 then (if (l.getD i z58).f2 = 0 then some false else (if 0 < i then (if Bef (l.getD (i - 1) z58).f0 (l.getD (i - 1) z58).f1 (l.getD i z58).f0 (l.getD i z58).f1 then spec_BalsOk.l0 k l ((i + 1 : Nat) : Int) else some false) else spec_BalsOk.l0 k l ((i + 1 : Nat) : Int))) else some false) else some false) else some false := by
          intro k
          simp only [spec_BalsOk.l0]
          rw [if_pos (by omega), if_pos (by omega), w_succ hi (by omega)]
          by_cases h0 : 0 < i
          · rw [w_pred hi h0 (by omega)]
            simp only [no_s, amt_s, before_s, Option.bind_some, decide_eq_true_iff, rdB]
            simp only [if_pos (show (i : Int) > 0 by omega), if_pos (show (0 : Int) ≤ ((i - 1 : Nat) : Int) by omega), if_pos (show ((i - 1 : Nat) : Int) < (l.length : Int) by omega), if_pos h0]
          · simp only [no_s, amt_s, before_s, Option.bind_some, decide_eq_true_iff, rdB]
            simp only [if_neg (show ¬ (i : Int) > 0 by omega), if_neg h0]
        by_cases hg : GoodB l i
        · refine .inl ⟨hg, fun k => ?_⟩
          obtain ⟨g1, g2, g3, g4, g5⟩ := hg
          show spec_BalsOk.l0 (k + 1) l (i : Int) = _
          rw [e k, if_pos g1, if_pos g2, if_pos g3, if_neg g4]
          split
          · rename_i h0
            rw [if_pos (g5 h0)]
          · rfl
        · refine .inr ⟨hg, fun k => ?_⟩
          show spec_BalsOk.l0 (k + 1) l (i : Int) = _
          rw [e k]
          unfold GoodB at hg
          split
          · rename_i h1
            split
            · rename_i h2
              split
              · rename_i h3
                split
                · rfl
                · rename_i h4
                  split
                  · rw [if_neg (fun h6 => hg ⟨h1, h2, h3, h4, fun _ => h6⟩)]
                  · rename_i h5
                    exact absurd ⟨h1, h2, h3, h4, fun h6 => absurd h6 h5⟩ hg
              · rfl
            · rfl
          · rfl) l.length 0 (by omega) (by omega)
    have hq : r = okB l := by
      rw [Bool.eq_iff_iff, hiff, okB_iff]
      exact ⟨fun h => ⟨by omega, fun j hj => h.1 j (Nat.zero_le _) hj⟩, fun h => ⟨fun j _ hj => h.2 j hj, rfl⟩⟩
    subst hq
    exact Ev.congr (fun k => by rw [if_neg hn]; rfl) hr
theorem balsOk_i (l : List S58) (hm : l.length ≤ 9223372036854775807) : Ev (fun k => impl_BalsOk.f k l) (okB l) := by
  unfold impl_BalsOk.f
  obtain ⟨r, hr, hiff⟩ := Ev_asks' (fun k i => impl_BalsOk.l0 k l l (l.length : Int) i) l.length (GoodB l) (decide ((l.length : Int) ≤ 160))
      (Ev_one fun k => by simp only [impl_BalsOk.l0]; rw [if_neg (by omega)])
      (fun i hi => by
        -- the round's first part: what it asks of the balance itself
        have e : ∀ k, impl_BalsOk.l0 (k + 1) l l (l.length : Int) (i : Int) = impl_BalsOk.j1 k l (i : Int) l (l.length : Int) (i : Int) (!decide (No (l.getD i z58).f0 ∧ No (l.getD i z58).f1 ∧ Amt (l.getD i z58).f2 ∧ (l.getD i z58).f2 ≠ 0)) (l.getD i z58).f0 (l.getD i z58).f1 (l.getD i z58).f2 := by
          intro k
          simp only [impl_BalsOk.l0]
          rw [if_pos (by omega), if_pos (by omega), if_pos (by omega)]
          simp only [no_i, amt_i, Option.bind_some, decide_eq_true_iff, rdB]
          by_cases h1 : No (l.getD i z58).f0
          · by_cases h2 : No (l.getD i z58).f1
            · by_cases h3 : Amt (l.getD i z58).f2
              · rw [if_pos h1, if_pos h2, if_pos h3]
                congr 1
                by_cases h4 : (l.getD i z58).f2 = 0
                · rw [decide_eq_false (fun g => g.2.2.2 h4), h4]; rfl
                · rw [decide_eq_true (show _ ∧ _ from ⟨h1, h2, h3, h4⟩)]; simpa using h4
              · rw [if_pos h1, if_pos h2, if_neg h3, decide_eq_false (fun g => h3 g.2.2.1)]; rfl
            · rw [if_pos h1, if_neg h2, decide_eq_false (fun g => h2 g.2.1)]; rfl
          · rw [if_neg h1, decide_eq_false (fun g => h1 g.1)]; rfl
        by_cases hw : No (l.getD i z58).f0 ∧ No (l.getD i z58).f1 ∧ Amt (l.getD i z58).f2 ∧ (l.getD i z58).f2 ≠ 0
        · by_cases h0 : 0 < i
          · have e2 : ∀ k, impl_BalsOk.j1 (k + 1) l (i : Int) l (l.length : Int) (i : Int) false (l.getD i z58).f0 (l.getD i z58).f1 (l.getD i z58).f2 = (impl_byBoth.f k (l.getD (i - 1) z58).f0 (l.getD (i - 1) z58).f1 (l.getD i z58).f0 (l.getD i z58).f1).bind fun t => if t ≥ 0 then some false else impl_BalsOk.l0 k l l (l.length : Int) ((i + 1 : Nat) : Int) := by
              intro k
              simp only [impl_BalsOk.j1]
              rw [if_neg (by decide), if_pos (by omega), w_pred hi h0 (by omega), if_pos (by omega), if_pos (by omega), w_succ hi (by omega)]
              simp only [rdB]
            by_cases hb : Bef (l.getD (i - 1) z58).f0 (l.getD (i - 1) z58).f1 (l.getD i z58).f0 (l.getD i z58).f1
            · refine .inl ⟨⟨hw.1, hw.2.1, hw.2.2.1, hw.2.2.2, fun _ => hb⟩, fun r hr => ?_⟩
              refine Ev.step (fun k => by rw [e k, decide_eq_true hw]) (Ev.step e2 (Ev_bind (both_i _ _ _ _) ?_))
              exact Ev.congr (fun k => by rw [if_neg (fun g => cmp_neg.1 g hb)]) hr
            · refine .inr ⟨fun g => hb (g.2.2.2.2 h0), ?_⟩
              refine Ev.step (fun k => by rw [e k, decide_eq_true hw]) (Ev.step e2 (Ev_bind (both_i _ _ _ _) ?_))
              exact Ev_all_k fun k => by rw [if_pos (cmp_neg.2 hb)]
          · refine .inl ⟨⟨hw.1, hw.2.1, hw.2.2.1, hw.2.2.2, fun g => absurd g h0⟩, fun r hr => ?_⟩
            refine Ev.step (fun k => by rw [e k, decide_eq_true hw]) (Ev.step (fun k => ?_) hr)
            show impl_BalsOk.j1 (k + 1) l (i : Int) l (l.length : Int) (i : Int) false _ _ _ = _
            simp only [impl_BalsOk.j1]
            rw [if_neg (by decide), if_neg (by omega), w_succ hi (by omega)]
        · refine .inr ⟨fun g => hw ⟨g.1, g.2.1, g.2.2.1, g.2.2.2.1⟩, ?_⟩
          refine Ev.step (fun k => by rw [e k, decide_eq_false hw]) (Ev_one fun k => ?_)
          show impl_BalsOk.j1 (k + 1) l (i : Int) l (l.length : Int) (i : Int) true _ _ _ = _
          simp only [impl_BalsOk.j1]
          rw [if_pos trivial]) l.length 0 (by omega) (by omega)
  have hq : r = okB l := by
    rw [Bool.eq_iff_iff, hiff, okB_iff, decide_eq_true_iff]
    exact ⟨fun h => ⟨by omega, fun j hj => h.1 j (Nat.zero_le _) hj⟩, fun h => ⟨fun j _ hj => h.2 j hj, by have := h.1; omega⟩⟩
  subst hq
  exact hr
end Go.Proofs.Ytpcjpjjkaplebaa.B1
namespace Go.Proofs.Ytpcjpjjkaplebaa.B2
open Go Go.RowKit Go.Proofs.Ytpcjpjjkaplebaa.P Go.Proofs.YtpcjpjjkaplebaaW.PrintWords Go.Proofs.YtpcjpjjkaplebaaW.PrintLast Go.Proofs.Ytpcjpjjkaplebaa.EV Go.Proofs.Ytpcjpjjkaplebaa.I1 Go.Proofs.Ytpcjpjjkaplebaa.N1 Go.Proofs.Ytpcjpjjkaplebaa.B1
abbrev SB := S58
def ofB (a b : Int) : List SB → Int
  | [] => 0
  | x :: l => if x.f0 = a ∧ x.f1 = b then x.f2 else ofB a b l
theorem ofB_drop (a b : Int) (l : List SB) (i : Nat) (hi : i < l.length) : ofB a b (l.drop i) = if (l.getD i z58).f0 = a ∧ (l.getD i z58).f1 = b then (l.getD i z58).f2 else ofB a b (l.drop (i + 1)) := by
  rw [drop_getD z58 l i hi]; rfl
theorem of_s (l : List SB) (a b : Int) (hm : l.length ≤ 9223372036854775807) : Ev (fun k => spec_l4Of.f k l a b) (ofB a b l) := by
  unfold spec_l4Of.f
  have h := Ev_goes (fun k (_ : Unit) i => spec_l4Of.l0 k l a b i) l.length (fun i _ => ofB a b (l.drop i)) (fun _ _ => True)
    (fun _ _ => Ev_one fun k => by
      simp only [spec_l4Of.l0]
      rw [if_neg (by omega), List.drop_length]
      rfl)
    (fun i _ hi _ => by
      by_cases h : (l.getD i z58).f0 = a ∧ (l.getD i z58).f1 = b
      · refine .inl (Ev_one fun k => ?_)
        simp only [spec_l4Of.l0, rdB]
        rw [if_pos (by omega), if_pos (by omega), if_pos h.1, if_pos h.2, ofB_drop a b l i hi, if_pos h]
      · refine .inr ⟨(), trivial, by show ofB a b (l.drop (i + 1)) = ofB a b (l.drop i); rw [ofB_drop a b l i hi, if_neg h], fun k => ?_⟩
        show spec_l4Of.l0 (k + 1) l a b (i : Int) = _
        simp only [spec_l4Of.l0, rdB]
        rw [if_pos (by omega), if_pos (by omega), w_succ hi (by omega)]
        by_cases h1 : (l.getD i z58).f0 = a
        · rw [if_pos h1, if_neg fun h2 => h ⟨h1, h2⟩]
        · rw [if_neg h1]) l.length 0 () (by omega) (by omega) trivial
  rw [List.drop_zero] at h
  exact h
theorem ahead {l : List SB} (h : ∀ j, j < l.length → GoodB l j) : ∀ (d i j : Nat), j - i = d → i < j → j < l.length → Bef (l.getD i z58).f0 (l.getD i z58).f1 (l.getD j z58).f0 (l.getD j z58).f1 := by
  intro d
  induction d with
  | zero => intro i j h1 h2; omega
  | succ d ih =>
    intro i j hd hi hj
    have g := (h j hj).2.2.2.2 (by omega)
    rcases Nat.lt_or_ge i (j - 1) with h2 | h2
    · have g2 := ih i (j - 1) (by omega) h2 (by omega)
      unfold Bef at *
      omega
    · obtain rfl : i = j - 1 := by omega
      exact g
theorem ofB_none (a b : Int) : ∀ (l : List SB), (∀ x ∈ l, ¬ (x.f0 = a ∧ x.f1 = b)) → ofB a b l = 0
  | [], _ => rfl
  | x :: l, h => by
    unfold ofB
    rw [if_neg (h x List.mem_cons_self)]
    exact ofB_none a b l fun y hy => h y (List.mem_cons_of_mem _ hy)
theorem mem_drop {l : List SB} {i : Nat} {x : SB} (h : x ∈ l.drop i) : ∃ j, i ≤ j ∧ j < l.length ∧ l.getD j z58 = x := by
  obtain ⟨j, hj, rfl⟩ := List.getElem_of_mem h
  rw [List.length_drop] at hj
  refine ⟨i + j, by omega, by omega, ?_⟩
  rw [List.getD_eq_getElem?_getD, List.getElem?_eq_getElem (by omega), List.getElem_drop]
  rfl
def atB (a b : Int) : List SB → Nat → Nat × Bool
  | [], i => (i, false)
  | x :: l, i => if cmp x.f0 x.f1 a b ≥ 0 then (i, cmp x.f0 x.f1 a b == 0) else atB a b l (i + 1)
theorem atB_drop (a b : Int) (l : List SB) (i : Nat) (hi : i < l.length) : atB a b (l.drop i) i = if cmp (l.getD i z58).f0 (l.getD i z58).f1 a b ≥ 0 then (i, cmp (l.getD i z58).f0 (l.getD i z58).f1 a b == 0) else atB a b (l.drop (i + 1)) (i + 1) := by
  rw [drop_getD z58 l i hi]; rfl
theorem atB_range (a b : Int) : ∀ (l : List SB) (i : Nat), i ≤ (atB a b l i).1 ∧ (atB a b l i).1 ≤ i + l.length ∧ ((atB a b l i).2 = true → (atB a b l i).1 < i + l.length)
  | [], i => by unfold atB; simp
  | x :: l, i => by
    unfold atB
    have := atB_range a b l (i + 1)
    rw [List.length_cons]
    split
    · exact ⟨Nat.le_refl _, by show i ≤ _; omega, fun _ => by show i < _; omega⟩
    · exact ⟨by omega, by omega, fun h => by have := this.2.2 h; omega⟩
theorem at_i (l : List SB) (a b : Int) (hm : l.length ≤ 9223372036854775807) : Ev (fun k => impl_balAt.f k l a b) (((atB a b l 0).1 : Int), (atB a b l 0).2) := by
  unfold impl_balAt.f
  have h := Ev_goes' (fun k (_ : Unit) i => impl_balAt.l0 k l a b l (l.length : Int) i) l.length (fun i _ => (((atB a b (l.drop i) i).1 : Int), (atB a b (l.drop i) i).2)) (fun _ _ => True)
    (fun _ _ => Ev_one fun k => by
      simp only [impl_balAt.l0]
      rw [if_neg (by omega), List.drop_length]
      rfl)
    (fun i _ hi _ => by
      have e : ∀ k, impl_balAt.l0 (k + 1) l a b l (l.length : Int) (i : Int) = (impl_byBoth.f k (l.getD i z58).f0 (l.getD i z58).f1 a b).bind fun t => if t ≥ 0 then some ((i : Int), t == 0) else impl_balAt.l0 k l a b l (l.length : Int) ((i + 1 : Nat) : Int) := by
        intro k
        simp only [impl_balAt.l0, rdB]
        rw [if_pos (by omega), if_pos (by omega), if_pos (by omega), w_succ hi (by omega)]
      by_cases h : cmp (l.getD i z58).f0 (l.getD i z58).f1 a b ≥ 0
      · refine .inl (Ev.step e (Ev_bind (both_i _ _ _ _) (Ev_all_k fun k => ?_)))
        rw [if_pos h, atB_drop a b l i hi, if_pos h]
      · refine .inr ⟨(), trivial, by show (((atB a b (l.drop (i + 1)) (i + 1)).1 : Int), (atB a b (l.drop (i + 1)) (i + 1)).2) = (((atB a b (l.drop i) i).1 : Int), (atB a b (l.drop i) i).2); rw [atB_drop a b l i hi, if_neg h], fun r hr => ?_⟩
        exact Ev.step e (Ev_bind (both_i _ _ _ _) (Ev.congr (fun k => by rw [if_neg h]) hr))) l.length 0 () (by omega) (by omega) trivial
  rw [List.drop_zero] at h
  exact h
theorem at_of {l : List SB} (h : ∀ j, j < l.length → GoodB l j) (a b : Int) : ∀ (d i : Nat), l.length - i = d → i ≤ l.length → (if (atB a b (l.drop i) i).2 = true then (l.getD (atB a b (l.drop i) i).1 z58).f2 else 0) = ofB a b (l.drop i) := by
  intro d
  induction d with
  | zero =>
    intro i hd hi
    obtain rfl : i = l.length := by omega
    rw [List.drop_length]
    rfl
  | succ d ih =>
    intro i hd hi
    have hi2 : i < l.length := by omega
    rw [atB_drop a b l i hi2, ofB_drop a b l i hi2]
    by_cases h1 : cmp (l.getD i z58).f0 (l.getD i z58).f1 a b ≥ 0
    · rw [if_pos h1]
      by_cases h2 : (l.getD i z58).f0 = a ∧ (l.getD i z58).f1 = b
      · rw [if_pos h2, cmp_zero.2 h2]
        rfl
      · rw [if_neg h2, if_neg (by simp only [beq_iff_eq]; rw [cmp_zero]; exact h2)]
        symm
        apply ofB_none
        intro x hx
        obtain ⟨j, hj1, hj2, rfl⟩ := mem_drop hx
        have g := ahead h (j - i) i j rfl (by omega) hj2
        have g2 := cmp_neg.1 h1
        unfold Bef at g g2
        omega
    · rw [if_neg h1, ih (i + 1) (by omega) (by omega)]
      rw [if_neg]
      intro h2
      exact h1 (by rw [cmp_zero.2 h2]; decide)
theorem of_i {l : List SB} (h : OkB l) (a b : Int) : Ev (fun k => impl_balOf.f k l a b) (ofB a b l) := by
  unfold impl_balOf.f
  have h1 := h.1
  refine Ev_bind (at_i l a b (by omega)) ?_
  have g := at_of h.2 a b l.length 0 (by omega) (by omega)
  have r := atB_range a b l 0
  rw [List.drop_zero] at g
  rw [← g]
  by_cases h2 : (atB a b l 0).2 = true
  · refine Ev_all_k fun k => ?_
    have := r.2.2 h2
    rw [if_pos h2, if_pos h2, if_pos (by show (0 : Int) ≤ ((atB a b l 0).1 : Int); omega), if_pos (by show ((atB a b l 0).1 : Int) < _; omega), rdB]
  · refine Ev_all_k fun k => ?_
    rw [if_neg h2, if_neg h2]
open Classical in
noncomputable def balOf (l : List SB) (a b : Int) : Int := if OkB l then ofB a b l else 0
theorem balOf_s (l : List SB) (a b : Int) (hm : l.length ≤ 9223372036854775807) : Ev (fun k => spec_BalOf.f k l a b) (balOf l a b) := by
  unfold spec_BalOf.f balOf
  refine Ev_bind (balsOk_s l) ?_
  by_cases h : OkB l
  · rw [if_pos h]
    exact Ev.congr (fun k => by rw [if_pos ((okB_iff l).2 h)]) (Ev_bind (of_s l a b hm) (Ev_all_k fun k => rfl))
  · rw [if_neg h]
    exact Ev_all_k fun k => by rw [if_neg (by rw [okB_no h]; decide)]
theorem balOf_i (l : List SB) (a b : Int) (hm : l.length ≤ 9223372036854775807) : Ev (fun k => impl_BalOf.f k l a b) (balOf l a b) := by
  unfold impl_BalOf.f balOf
  refine Ev_bind (balsOk_i l hm) ?_
  by_cases h : OkB l
  · rw [if_pos h]
    exact Ev.congr (fun k => by rw [if_pos ((okB_iff l).2 h)]) (Ev_bind (of_i h a b) (Ev_all_k fun k => rfl))
  · rw [if_neg h]
    exact Ev_all_k fun k => by rw [if_neg (by rw [okB_no h]; decide)]
def sumB (a : Int) : List SB → Int
  | [] => 0
  | x :: l => (if x.f1 = a then x.f2 else 0) + sumB a l
theorem sumB_drop (a : Int) (l : List SB) (i : Nat) (hi : i < l.length) : sumB a (l.drop i) = (if (l.getD i z58).f1 = a then (l.getD i z58).f2 else 0) + sumB a (l.drop (i + 1)) := by
  rw [drop_getD z58 l i hi]; rfl
theorem sumB_bound {l : List SB} (h : ∀ j, j < l.length → GoodB l j) (a : Int) : ∀ (d i : Nat), l.length - i = d → i ≤ l.length → -(1000000000000000 * (l.length - i : Int)) ≤ sumB a (l.drop i) ∧ sumB a (l.drop i) ≤ 1000000000000000 * (l.length - i : Int) := by
  intro d
  induction d with
  | zero =>
    intro i hd hi
    obtain rfl : i = l.length := by omega
    rw [List.drop_length]
    unfold sumB
    omega
  | succ d ih =>
    intro i hd hi
    rw [sumB_drop a l i (by omega)]
    have := ih (i + 1) (by omega) (by omega)
    have g : Amt _ := (h i (by omega)).2.2.1
    unfold Amt at g
    split <;> omega
def told (n : Int) (ok : Bool) : Int × Bool := if ok = true ∧ Amt n then (n, true) else (0, false)
theorem told_s (n : Int) (ok : Bool) : spec_l1Told.f n ok = some (told n ok) := by
  unfold spec_l1Told.f told
  rw [amt_s, Option.bind_some]
  cases ok with
  | true =>
    rw [if_pos rfl]
    by_cases h : Amt n
    · rw [if_pos (decide_eq_true h), if_pos ⟨rfl, h⟩]
    · rw [if_neg (by rw [decide_eq_false h]; decide), if_neg fun g => h g.2]
  | false => rw [if_neg (by decide), if_neg fun g => absurd g.1 (by decide)]
theorem told_i (n : Int) : impl_amount.f n = some (told n true) := by
  unfold impl_amount.f told
  rw [amt_i, Option.bind_some]
  by_cases h : Amt n
  · rw [if_pos (decide_eq_true h), if_pos ⟨rfl, h⟩]
  · rw [if_neg (by rw [decide_eq_false h]; decide), if_neg fun g => h g.2]
theorem sum_i {l : List SB} (h : OkB l) (a : Int) : Ev (fun k => impl_balsSum.f k l a) (sumB a l) := by
  unfold impl_balsSum.f
  have h1 := h.1
  have hb := fun i hi => sumB_bound h.2 a (l.length - i) i rfl hi
  have h' := Ev_goes (fun k s i => impl_balsSum.l0 k a s l (l.length : Int) i) l.length (fun i s => s + sumB a (l.drop i)) (fun i s => s + sumB a (l.drop i) = sumB a l)
    (fun s hs => Ev_one fun k => by
      simp only [impl_balsSum.l0]
      rw [if_neg (by omega), List.drop_length]
      show some s = some (s + 0)
      rw [Int.add_zero])
    (fun i s hi hs => by
      have e := sumB_drop a l i hi
      have b0 := hb 0 (by omega)
      have b1 := hb (i + 1) (by omega)
      rw [List.drop_zero] at b0
      refine .inr ⟨s + (if (l.getD i z58).f1 = a then (l.getD i z58).f2 else 0), by omega, by omega, fun k => ?_⟩
      show impl_balsSum.l0 (k + 1) a s l (l.length : Int) (i : Int) = _
      simp only [impl_balsSum.l0, rdB]
      rw [if_pos (by omega), if_pos (by omega), if_pos (by omega), w_succ hi (by omega)]
      by_cases h2 : (l.getD i z58).f1 = a
      · rw [if_pos h2] at e
        rw [if_pos h2, if_pos h2, w64_in _ (by omega) (by omega)]
      · rw [if_neg h2, if_neg h2, Int.add_zero]) l.length 0 0 (by omega) (by omega) (by rw [List.drop_zero]; omega)
  rw [List.drop_zero, Int.zero_add] at h'
  exact h'
noncomputable def balsSum (l : List SB) (a : Int) : Int × Bool := if okB l = true then told (sumB a l) true else (0, false)
theorem balsSum_i (l : List SB) (a : Int) (hm : l.length ≤ 9223372036854775807) : Ev (fun k => impl_BalsSum.f k l a) (balsSum l a) := by
  unfold impl_BalsSum.f balsSum
  refine Ev_bind (balsOk_i l hm) ?_
  by_cases h : okB l = true
  · rw [if_pos h]
    exact Ev.congr (fun k => by rw [if_pos h]) (Ev_bind (sum_i ((okB_iff l).1 h) a) (Ev_all_k fun k => by rw [told_i]; rfl))
  · rw [if_neg h]
    exact Ev_all_k fun k => by rw [if_neg h]
theorem balsSum_s (l : List SB) (a : Int) : Ev (fun k => spec_BalsSum.f k l a) (balsSum l a) := by
  unfold spec_BalsSum.f balsSum
  have last : ∀ s : Int, (okB l = false → s = 0) → Ev (fun k => (spec_BalsOk.f k l).bind fun t214 => ((spec_l1Told.f s t214).bind fun bt215 => (some (bt215.1, bt215.2)))) (if okB l = true then told s true else (0, false)) := fun s _ => by
    refine Ev_bind (balsOk_s l) (Ev_all_k fun k => ?_)
    rw [told_s]
    cases okB l with
    | true => rfl
    | false => rw [if_neg (by decide)]; unfold told; rw [if_neg fun g => absurd g.1 (by decide)]; rfl
  by_cases h : OkB l
  · have h1 := h.1
    have ht := (okB_iff l).2 h
    have hb := fun i hi => sumB_bound h.2 a (l.length - i) i rfl hi
    have h' := Ev_goes' (fun k s i => spec_BalsSum.l0 k l a s i) l.length (fun i s => if okB l = true then told (s + sumB a (l.drop i)) true else (0, false)) (fun i s => s + sumB a (l.drop i) = sumB a l)
      (fun s hs => by
        refine Ev.step (f := fun k => spec_BalsSum.j1 k l a s (l.length : Int) false) (fun k => by simp only [spec_BalsSum.l0]; rw [if_neg (by omega)]) ?_
        refine Ev.step (fun k => by simp only [spec_BalsSum.j1]; rw [if_neg (by decide)]) ?_
        have := last s (fun g => by rw [ht] at g; cases g)
        rw [List.drop_length]
        show Ev _ (if okB l = true then told (s + 0) true else (0, false))
        rw [Int.add_zero]
        exact this)
      (fun i s hi hs => by
        have e := sumB_drop a l i hi
        have b0 := hb 0 (by omega)
        have b1 := hb (i + 1) (by omega)
        rw [List.drop_zero] at b0
        refine .inr ⟨s + (if (l.getD i z58).f1 = a then (l.getD i z58).f2 else 0), by omega, by
          show (if okB l = true then told (s + (if (l.getD i z58).f1 = a then (l.getD i z58).f2 else 0) + sumB a (l.drop (i + 1))) true else (0, false)) = if okB l = true then told (s + sumB a (l.drop i)) true else (0, false)
          rw [e, Int.add_assoc], fun r hr => ?_⟩
        refine Ev.step (f := fun k => (spec_BalsOk.f k l).bind fun t211 => spec_BalsSum.j1 k l a s (i : Int) t211) (fun k => by simp only [spec_BalsSum.l0]; rw [if_pos (by omega)]) (Ev_bind (balsOk_s l) ?_)
        rw [ht]
        refine Ev.step (fun k => ?_) hr
        show spec_BalsSum.j1 (k + 1) l a s (i : Int) true = _
        simp only [spec_BalsSum.j1, rdB]
        rw [if_pos trivial, if_pos (by omega), if_pos (by omega), w_succ hi (by omega)]
        by_cases h2 : (l.getD i z58).f1 = a
        · rw [if_pos h2] at e
          rw [if_pos h2, if_pos h2, w64_in _ (by omega) (by omega)]
        · rw [if_neg h2, if_neg h2, Int.add_zero]) l.length 0 0 (by omega) (by omega) (by rw [List.drop_zero]; omega)
    rw [List.drop_zero, Int.zero_add] at h'
    exact h'
  · have hf := okB_no h
    have hr : (if okB l = true then told (sumB a l) true else (0, false)) = (if okB l = true then told 0 true else (0, false)) := by rw [hf]; rfl
    rw [hr]
    by_cases h0 : (0 : Int) < (l.length : Int)
    · refine Ev.step (f := fun k => (spec_BalsOk.f k l).bind fun t211 => spec_BalsSum.j1 k l a 0 0 t211) (fun k => by simp only [spec_BalsSum.l0]; rw [if_pos h0]) (Ev_bind (balsOk_s l) ?_)
      have hz := last 0 fun _ => rfl
      rw [hf] at hz ⊢
      refine Ev.step (fun k => by simp only [spec_BalsSum.j1]; rw [if_neg (by decide)]) ?_
      exact hz
    · refine Ev.step (f := fun k => spec_BalsSum.j1 k l a 0 0 false) (fun k => by simp only [spec_BalsSum.l0]; rw [if_neg h0]) ?_
      refine Ev.step (fun k => by simp only [spec_BalsSum.j1]; rw [if_neg (by decide)]) ?_
      exact last 0 fun _ => rfl
end Go.Proofs.Ytpcjpjjkaplebaa.B2
namespace Go.Proofs.Ytpcjpjjkaplebaa.B3
open Go Go.RowKit Go.Proofs.Ytpcjpjjkaplebaa.P Go.Proofs.YtpcjpjjkaplebaaW.PrintWords Go.Proofs.YtpcjpjjkaplebaaW.PrintLast Go.Proofs.Ytpcjpjjkaplebaa.EV Go.Proofs.Ytpcjpjjkaplebaa.I1 Go.Proofs.Ytpcjpjjkaplebaa.N1 Go.Proofs.Ytpcjpjjkaplebaa.B1 Go.Proofs.Ytpcjpjjkaplebaa.B2
theorem take_getD {α : Type} (z : α) (l : List α) (i : Nat) (h : i < l.length) : l.take (i + 1) = l.take i ++ [l.getD i z] := by
  rw [List.take_add_one, List.getD_eq_getElem?_getD, List.getElem?_eq_getElem h]
  rfl
theorem getD_drop {α : Type} (z : α) (l : List α) (p i : Nat) : (l.drop p).getD i z = l.getD (p + i) z := by
  rw [List.getD_eq_getElem?_getD, List.getElem?_drop, List.getD_eq_getElem?_getD]
theorem getD_get {α : Type} (z : α) (l : List α) (i : Nat) (h : i < l.length) : l.getD i z = l[i] := by
  rw [List.getD_eq_getElem?_getD, List.getElem?_eq_getElem h]
  rfl
abbrev Lt (x y : SB) : Prop := Bef x.f0 x.f1 y.f0 y.f1
def Good1 (x : SB) : Prop := No x.f0 ∧ No x.f1 ∧ Amt x.f2 ∧ x.f2 ≠ 0
def SortB (l : List SB) : Prop := (∀ x ∈ l, Good1 x) ∧ l.Pairwise Lt
theorem sortB_good {l : List SB} (h : SortB l) : ∀ j, j < l.length → GoodB l j := by
  intro j hj
  have g : Good1 (l.getD j z58) := by rw [getD_get _ l j hj]; exact h.1 _ (List.getElem_mem hj)
  refine ⟨g.1, g.2.1, g.2.2.1, g.2.2.2, fun h0 => ?_⟩
  rw [getD_get _ l j hj, getD_get _ l (j - 1) (by omega)]
  exact List.pairwise_iff_getElem.1 h.2 (j - 1) j (by omega) hj (by omega)
theorem good_sortB {l : List SB} (h : ∀ j, j < l.length → GoodB l j) : SortB l := by
  refine ⟨fun x hx => ?_, List.pairwise_iff_getElem.2 fun i j hi hj hij => ?_⟩
  · obtain ⟨j, hj, rfl⟩ := List.getElem_of_mem hx
    have g := h j hj
    unfold GoodB at g
    rw [getD_get _ l j hj] at g
    exact ⟨g.1, g.2.1, g.2.2.1, g.2.2.2.1⟩
  · have g := B2.ahead h (j - i) i j rfl hij hj
    rw [getD_get _ l j hj, getD_get _ l i hi] at g
    exact g
theorem okB_sort (l : List SB) : OkB l ↔ l.length ≤ 160 ∧ SortB l := ⟨fun h => ⟨h.1, good_sortB h.2⟩, fun h => ⟨h.1, sortB_good h.2⟩⟩
def key (x : SB) (a b : Int) : Prop := x.f0 = a ∧ x.f1 = b
instance (x : SB) (a b : Int) : Decidable (key x a b) := by unfold key; exact inferInstance
theorem atB_skip (a b : Int) : ∀ (l : List SB) (i j : Nat), i + j < (atB a b l i).1 → Bef (l.getD j z58).f0 (l.getD j z58).f1 a b
  | [], i, j, h => by unfold atB at h; exact absurd h (by show ¬ (i + j < i); omega)
  | x :: l, i, j, h => by
    unfold atB at h
    split at h
    · exact absurd h (by show ¬ (i + j < i); omega)
    · rename_i hc
      have hb : Bef x.f0 x.f1 a b := by
        apply Classical.byContradiction
        intro g
        exact hc (cmp_neg.2 g)
      cases j with
      | zero => exact hb
      | succ j => exact atB_skip a b l (i + 1) j (by omega)
theorem atB_stop (a b : Int) : ∀ (l : List SB) (i : Nat), (atB a b l i).1 < i + l.length → ¬ Bef (l.getD ((atB a b l i).1 - i) z58).f0 (l.getD ((atB a b l i).1 - i) z58).f1 a b ∧ ((atB a b l i).2 = true ↔ key (l.getD ((atB a b l i).1 - i) z58) a b)
  | [], i, h => by unfold atB at h; exact absurd h (by simp)
  | x :: l, i, h => by
    have hr := atB_range a b l (i + 1)
    unfold atB at h ⊢
    split
    · rename_i hc
      rw [show (i, cmp x.f0 x.f1 a b == 0).1 - i = 0 by show i - i = 0; omega]
      refine ⟨cmp_neg.1 hc, ?_⟩
      show ((cmp x.f0 x.f1 a b == 0) = true ↔ key x a b)
      rw [beq_iff_eq, cmp_zero]
      rfl
    · rename_i hc
      rw [if_neg hc, List.length_cons] at h
      have g := atB_stop a b l (i + 1) (by omega)
      rw [show (atB a b l (i + 1)).1 - i = ((atB a b l (i + 1)).1 - (i + 1)) + 1 by omega]
      exact g
theorem atB_end (a b : Int) (l : List SB) (h : (atB a b l 0).1 = l.length) : (atB a b l 0).2 = false := by
  cases e : (atB a b l 0).2 with
  | false => rfl
  | true =>
    have := (atB_range a b l 0).2.2 e
    omega
def ins (a b n : Int) : List SB := if n = 0 then [] else [⟨a, b, n⟩]
def nxt (a b : Int) (l : List SB) : Nat := if (atB a b l 0).2 = true then (atB a b l 0).1 + 1 else (atB a b l 0).1
def putB (l : List SB) (a b n : Int) : List SB := l.take (atB a b l 0).1 ++ ins a b n ++ l.drop (nxt a b l)
theorem nxt_le (a b : Int) (l : List SB) : (atB a b l 0).1 ≤ nxt a b l ∧ nxt a b l ≤ l.length := by
  have := atB_range a b l 0
  unfold nxt
  split
  · rename_i h
    have := this.2.2 h
    omega
  · omega
theorem putB_len (l : List SB) (a b n : Int) : (putB l a b n).length ≤ l.length + 1 := by
  have := atB_range a b l 0
  have := nxt_le a b l
  unfold putB ins
  rw [List.length_append, List.length_append, List.length_take, List.length_drop]
  split <;> simp <;> omega
theorem clone_i (x : List SB) (hx : x.length ≤ 1048577) : impl_Bal_62.f x = some x := by
  unfold impl_Bal_62.f
  rw [Option.bind_some, List.length_nil, if_pos (by omega), List.nil_append]
theorem put_i (l : List SB) (a b n : Int) (hm : l.length ≤ 1048576) : Ev (fun k => impl_withBal.f k l a b n) (putB l a b n) := by
  unfold impl_withBal.f
  refine Ev.congr (fun k => by rw [clone_i l (by omega), Option.bind_some]) ?_
  refine Ev_bind (at_i l a b (by omega)) ?_
  have hr := atB_range a b l 0
  unfold putB nxt ins
  cases e : (atB a b l 0).2 with
  | true =>
    have hp := hr.2.2 e
    rw [if_pos (show true = true from rfl)]
    refine Ev_all_k fun k => ?_
    dsimp only
    rw [if_pos rfl, w_succ (n := l.length) (by omega) (by omega)]
    unfold impl_Bal_76.f
    rw [if_pos ⟨by omega, by omega, by omega, by omega⟩, Option.bind_some, Int.toNat_natCast, Int.toNat_natCast]
    by_cases h : n = 0
    · rw [if_pos h, if_pos h, List.append_nil]
    · rw [if_neg h, if_neg h]
      unfold impl_Bal_77.f
      have ll : (l.take (atB a b l 0).1 ++ l.drop ((atB a b l 0).1 + 1)).length = l.length - 1 := by simp; omega
      rw [if_pos ⟨by omega, by rw [ll]; omega, rfl, by rw [ll]; omega⟩, Option.bind_some, Int.toNat_natCast]
      have lt : (l.take (atB a b l 0).1).length = (atB a b l 0).1 := by rw [List.length_take]; omega
      rw [List.take_append_of_le_length (by omega), List.take_of_length_le (by omega), List.drop_append_of_le_length (by omega), List.drop_of_length_le (by omega), List.nil_append]
  | false =>
    rw [if_neg (show ¬ (false = true) by decide)]
    refine Ev_all_k fun k => ?_
    dsimp only
    rw [if_neg (show ¬ (false = true) by decide)]
    by_cases h : n = 0
    · rw [if_pos h, if_pos h, List.append_nil, List.take_append_drop]
    · rw [if_neg h, if_neg h]
      unfold impl_Bal_77.f
      rw [if_pos ⟨by omega, by omega, rfl, by omega⟩, Option.bind_some, Int.toNat_natCast]
theorem key_not {l : List SB} (h : SortB l) (a b : Int) (i : Nat) (hi : i < l.length) (hp : i ≠ (atB a b l 0).1) : ¬ key (l.getD i z58) a b := by
  intro g
  unfold key at g
  rcases Nat.lt_or_gt_of_ne hp with h1 | h1
  · have := atB_skip a b l 0 i (by omega)
    rw [g.1, g.2] at this
    unfold Bef at this
    omega
  · have h2 := (atB_stop a b l 0 (by omega)).1
    rw [Nat.sub_zero] at h2
    have h3 := B2.ahead (sortB_good h) (i - (atB a b l 0).1) _ i rfl h1 hi
    rw [g.1, g.2] at h3
    exact h2 h3
def Gs (l : List SB) (a b n : Int) (i : Nat) : List SB × Bool :=
  if i ≤ (atB a b l 0).1 then (l.take i, n == 0) else (l.take (atB a b l 0).1 ++ ins a b n ++ (l.drop (nxt a b l)).take (i - nxt a b l), true)
theorem put_s {l : List SB} (h : SortB l) (a b n : Int) (hm : l.length ≤ 1048576) : Ev (fun k => spec_l4Put.f k l a b n) (putB l a b n) := by
  unfold spec_l4Put.f
  have hr := atB_range a b l 0
  have hx := nxt_le a b l
  refine Ev_goes' (fun k (s : List SB × Bool) i => spec_l4Put.l0 k l a b s.1 s.2 i a b n) l.length (fun _ _ => putB l a b n) (fun i s => s = Gs l a b n i)
    (fun s hs => Ev_one fun k => ?_) (fun i s hi hs => .inr ⟨Gs l a b n (i + 1), rfl, rfl, fun r hr2 => ?_⟩) l.length 0 ([], n == 0) (by omega) (by omega) (by unfold Gs; rw [if_pos (Nat.zero_le _)]; rfl)
  · subst hs
    unfold Gs putB
    by_cases h1 : l.length ≤ (atB a b l 0).1
    · have e1 : (atB a b l 0).1 = l.length := by omega
      rw [if_pos h1]
      unfold nxt
      rw [atB_end a b l e1, if_neg (by decide), e1, List.take_length, List.drop_length, List.append_nil]
      dsimp only
      simp only [spec_l4Put.l0]
      rw [if_neg (by omega)]
      unfold ins
      by_cases hn : n = 0
      · rw [if_pos (by rw [hn]; rfl), if_pos hn, List.append_nil]
      · rw [if_neg (by rw [beq_iff_eq]; exact hn), if_neg hn, if_pos (by omega)]
    · rw [if_neg h1, List.take_of_length_le (l := l.drop (nxt a b l)) (by rw [List.length_drop]; exact Nat.le_refl _)]
      dsimp only
      simp only [spec_l4Put.l0]
      rw [if_neg (by omega), if_pos trivial]
  · subst hs
    have hk : ¬ i = (atB a b l 0).1 → ¬ ((l.getD i z58).f0 = a ∧ (l.getD i z58).f1 = b) := fun g => key_not h a b i hi g
    -- the round's second half where nothing is put
    have second : ∀ (out : List SB) (put : Bool) (r : List SB), out.length ≤ 1048577 → Ev (fun k => spec_l4Put.l0 k l a b (if (l.getD i z58).f0 = a ∧ (l.getD i z58).f1 = b then out else out ++ [l.getD i z58]) put ((i + 1 : Nat) : Int) a b n) r →
        Ev (fun k => spec_l4Put.j1 k l a b out put (i : Int) false a b n (l.getD i z58).f0 (l.getD i z58).f1 (l.getD i z58).f2) r := fun out put r ho hq => by
      refine Ev.step (fun k => ?_) hq
      show spec_l4Put.j1 (k + 1) l a b out put (i : Int) false a b n _ _ _ = _
      simp only [spec_l4Put.j1]
      rw [if_neg (by decide), w_succ hi (by omega)]
      by_cases g1 : (l.getD i z58).f0 = a
      · by_cases g2 : (l.getD i z58).f1 = b
        · rw [if_pos g1, if_pos g2, if_pos ⟨g1, g2⟩]
        · rw [if_pos g1, if_neg g2, if_pos (by omega), if_neg (fun g => g2 g.2)]
      · rw [if_neg g1, if_pos (by omega), if_neg (fun g => g1 g.1)]
    have first : ∀ (out : List SB) (r : List SB), Ev (fun k => spec_l4Put.j1 k l a b out true (i : Int) false a b n (l.getD i z58).f0 (l.getD i z58).f1 (l.getD i z58).f2) r → Ev (fun k => spec_l4Put.l0 k l a b out true (i : Int) a b n) r := fun out r hq => by
      refine Ev.step (fun k => ?_) hq
      show spec_l4Put.l0 (k + 1) l a b out true (i : Int) a b n = _
      simp only [spec_l4Put.l0, rdB]
      rw [if_pos (by omega), if_pos (by omega), if_pos trivial]
    have first2 : ∀ (out : List SB) (r : List SB), Ev (fun k => spec_l4Put.j1 k l a b out false (i : Int) (!decide (Bef (l.getD i z58).f0 (l.getD i z58).f1 a b)) a b n (l.getD i z58).f0 (l.getD i z58).f1 (l.getD i z58).f2) r → Ev (fun k => spec_l4Put.l0 k l a b out false (i : Int) a b n) r := fun out r hq => by
      refine Ev.step (fun k => ?_) hq
      show spec_l4Put.l0 (k + 1) l a b out false (i : Int) a b n = _
      simp only [spec_l4Put.l0, rdB]
      rw [if_pos (by omega), if_pos (by omega), if_neg (by decide), before_s, Option.bind_some]
    have lt : (l.take i).length ≤ 1048577 := by rw [List.length_take]; omega
    by_cases h1 : i < (atB a b l 0).1
    · have hb := atB_skip a b l 0 i (by omega)
      have hn := hk (by omega)
      unfold Gs at hr2 ⊢
      rw [if_pos (by omega)] at hr2
      rw [if_pos (by omega)]
      rw [take_getD z58 l i hi] at hr2
      have key2 := second (l.take i) (n == 0) r lt (by rw [if_neg hn]; exact hr2)
      dsimp only at hr2 ⊢
      cases e : (n == 0) with
      | true => rw [e] at key2; exact first _ r key2
      | false => rw [e] at key2; exact first2 _ r (by rw [decide_eq_true hb]; exact key2)
    · by_cases h2 : i = (atB a b l 0).1
      · have hs := atB_stop a b l 0 (by omega)
        rw [Nat.sub_zero, ← h2] at hs
        obtain ⟨hnb, hiff⟩ := hs
        unfold Gs at hr2 ⊢
        rw [if_neg (by omega)] at hr2
        rw [if_pos (by omega)]
        rw [← h2] at hr2
        have hrest : (if (l.getD i z58).f0 = a ∧ (l.getD i z58).f1 = b then l.take i ++ ins a b n else l.take i ++ ins a b n ++ [l.getD i z58]) = l.take i ++ ins a b n ++ (l.drop (nxt a b l)).take (i + 1 - nxt a b l) := by
          unfold nxt
          by_cases e : (atB a b l 0).2 = true
          · have hk1 : (l.getD i z58).f0 = a ∧ (l.getD i z58).f1 = b := hiff.1 e
            rw [if_pos hk1, if_pos e, ← h2, Nat.sub_self, List.take_zero, List.append_nil]
          · have hk1 : ¬ ((l.getD i z58).f0 = a ∧ (l.getD i z58).f1 = b) := fun g => e (hiff.2 g)
            rw [if_neg hk1, if_neg e, ← h2, show i + 1 - i = 0 + 1 by omega, drop_getD z58 l i hi, List.take_succ_cons, List.take_zero]
        rw [← hrest] at hr2
        dsimp only at hr2 ⊢
        by_cases hn : n = 0
        · subst hn
          have hi0 : ins a b 0 = [] := rfl
          rw [hi0, List.append_nil] at hr2
          exact first _ r (second (l.take i) true r lt hr2)
        · have e0 : (n == 0) = false := by rw [beq_eq_false_iff_ne]; exact hn
          rw [e0]
          refine first2 _ r ?_
          rw [decide_eq_false hnb]
          have hi0 : ins a b n = [⟨a, b, n⟩] := by unfold ins; rw [if_neg hn]
          rw [hi0] at hr2
          refine Ev.step (fun k => ?_) hr2
          show spec_l4Put.j1 (k + 1) l a b (l.take i) false (i : Int) true a b n _ _ _ = _
          simp only [spec_l4Put.j1]
          rw [if_pos trivial, if_pos (by omega), Option.bind_some, w_succ hi (by omega)]
          have ll : (l.take i ++ [(⟨a, b, n⟩ : SB)]).length < 5864062014805 := by rw [List.length_append, List.length_take]; simp; omega
          by_cases g1 : (l.getD i z58).f0 = a
          · by_cases g2 : (l.getD i z58).f1 = b
            · rw [if_pos g1, if_pos g2, if_pos ⟨g1, g2⟩]
            · rw [if_pos g1, if_neg g2, if_pos ll, if_neg (fun g => g2 g.2)]
          · rw [if_neg g1, if_pos ll, if_neg (fun g => g1 g.1)]
      · have hn := hk h2
        have hq : nxt a b l ≤ i := by unfold nxt; split <;> omega
        unfold Gs at hr2 ⊢
        rw [if_neg (by omega)] at hr2
        rw [if_neg (by omega)]
        have hg : (l.drop (nxt a b l)).take (i + 1 - nxt a b l) = (l.drop (nxt a b l)).take (i - nxt a b l) ++ [l.getD i z58] := by
          rw [show i + 1 - nxt a b l = (i - nxt a b l) + 1 by omega, take_getD z58 _ _ (by rw [List.length_drop]; omega), getD_drop, show nxt a b l + (i - nxt a b l) = i by omega]
        rw [hg, ← List.append_assoc] at hr2
        dsimp only at hr2 ⊢
        refine first _ r (second _ true r ?_ (by rw [if_neg hn]; exact hr2))
        rw [List.length_append, List.length_append, List.length_take, List.length_take, List.length_drop]
        unfold ins
        split <;> simp <;> omega
end Go.Proofs.Ytpcjpjjkaplebaa.B3
namespace Go.Proofs.Ytpcjpjjkaplebaa.B4
open Go Go.RowKit Go.Proofs.Ytpcjpjjkaplebaa.P Go.Proofs.YtpcjpjjkaplebaaW.PrintWords Go.Proofs.YtpcjpjjkaplebaaW.PrintLast Go.Proofs.Ytpcjpjjkaplebaa.EV Go.Proofs.Ytpcjpjjkaplebaa.I1 Go.Proofs.Ytpcjpjjkaplebaa.N1 Go.Proofs.Ytpcjpjjkaplebaa.B1 Go.Proofs.Ytpcjpjjkaplebaa.B2 Go.Proofs.Ytpcjpjjkaplebaa.B3
theorem mem_take_getD {l : List SB} {p : Nat} {x : SB} (h : x ∈ l.take p) : ∃ j, j < p ∧ j < l.length ∧ l.getD j z58 = x := by
  obtain ⟨j, hj, rfl⟩ := List.getElem_of_mem h
  rw [List.length_take] at hj
  refine ⟨j, by omega, by omega, ?_⟩
  rw [getD_get _ l j (by omega), List.getElem_take]
theorem take_before {l : List SB} (a b : Int) {x : SB} (hx : x ∈ l.take (atB a b l 0).1) : Bef x.f0 x.f1 a b := by
  obtain ⟨j, hj, _, rfl⟩ := mem_take_getD hx
  exact atB_skip a b l 0 j (by omega)
theorem drop_after {l : List SB} (h : SortB l) (a b : Int) {x : SB} (hx : x ∈ l.drop (nxt a b l)) : Bef a b x.f0 x.f1 := by
  obtain ⟨j, hj, hjl, rfl⟩ := mem_drop hx
  have hr := atB_range a b l 0
  have hn := nxt_le a b l
  have hp : (atB a b l 0).1 < l.length := by omega
  obtain ⟨h1, h2⟩ := atB_stop a b l 0 (by omega)
  rw [Nat.sub_zero] at h1 h2
  unfold nxt at hj
  by_cases e : (atB a b l 0).2 = true
  · rw [if_pos e] at hj
    have hk := h2.1 e
    have h3 := B2.ahead (sortB_good h) (j - (atB a b l 0).1) _ j rfl (by omega) hjl
    rw [hk.1, hk.2] at h3
    exact h3
  · rw [if_neg e] at hj
    have hk : ¬ key (l.getD (atB a b l 0).1 z58) a b := fun g => e (h2.2 g)
    have h4 : Bef a b (l.getD (atB a b l 0).1 z58).f0 (l.getD (atB a b l 0).1 z58).f1 := by
      unfold Bef key at *
      omega
    rcases Nat.eq_or_lt_of_le hj with h5 | h5
    · rw [← h5]; exact h4
    · have h3 := B2.ahead (sortB_good h) (j - (atB a b l 0).1) _ j rfl h5 hjl
      unfold Bef at *
      omega
theorem bef_trans {a b c d e f : Int} (h : Bef a b c d) (k : Bef c d e f) : Bef a b e f := by
  unfold Bef at *
  omega
theorem bef_irr {a b : Int} (h : Bef a b a b) : False := by
  unfold Bef at h
  omega
theorem putB_sort {l : List SB} (h : SortB l) {a b n : Int} (ha : No a) (hb : No b) (hn : Amt n) : SortB (putB l a b n) := by
  have hins : ∀ x ∈ ins a b n, x = ⟨a, b, n⟩ ∧ n ≠ 0 := by
    intro x hx
    unfold ins at hx
    split at hx
    · cases hx
    · rename_i h0
      exact ⟨by simpa using hx, h0⟩
  refine ⟨fun x hx => ?_, ?_⟩
  · unfold putB at hx
    rw [List.mem_append, List.mem_append] at hx
    rcases hx with (hx | hx) | hx
    · exact h.1 x (List.mem_of_mem_take hx)
    · obtain ⟨rfl, h0⟩ := hins x hx
      exact ⟨ha, hb, hn, h0⟩
    · exact h.1 x (List.mem_of_mem_drop hx)
  · unfold putB
    have p1 : (l.take (atB a b l 0).1).Pairwise Lt := h.2.sublist (List.take_sublist _ _)
    have p2 : (l.drop (nxt a b l)).Pairwise Lt := h.2.sublist (List.drop_sublist _ _)
    have p3 : (ins a b n).Pairwise Lt := by
      unfold ins
      split
      · exact List.Pairwise.nil
      · exact List.pairwise_singleton _ _
    rw [List.pairwise_append, List.pairwise_append]
    refine ⟨⟨p1, p3, fun x hx y hy => ?_⟩, p2, fun x hx y hy => ?_⟩
    · obtain ⟨rfl, _⟩ := hins y hy
      exact take_before a b hx
    · rcases List.mem_append.1 hx with hx | hx
      · exact bef_trans (take_before a b hx) (drop_after h a b hy)
      · obtain ⟨rfl, _⟩ := hins x hx
        exact drop_after h a b hy
theorem mem_putB {l : List SB} (h : SortB l) (a b n : Int) (x : SB) : x ∈ putB l a b n ↔ (x ∈ l ∧ ¬ key x a b) ∨ (n ≠ 0 ∧ x = ⟨a, b, n⟩) := by
  have hr := atB_range a b l 0
  unfold putB
  rw [List.mem_append, List.mem_append]
  constructor
  · rintro ((hx | hx) | hx)
    · refine .inl ⟨List.mem_of_mem_take hx, fun hk => ?_⟩
      have := take_before a b hx
      rw [hk.1, hk.2] at this
      exact bef_irr this
    · unfold ins at hx
      split at hx
      · cases hx
      · rename_i h0
        exact .inr ⟨h0, by simpa using hx⟩
    · refine .inl ⟨List.mem_of_mem_drop hx, fun hk => ?_⟩
      have := drop_after h a b hx
      rw [hk.1, hk.2] at this
      exact bef_irr this
  · rintro (⟨hx, hk⟩ | ⟨h0, rfl⟩)
    · obtain ⟨j, hj, rfl⟩ := List.getElem_of_mem hx
      by_cases h1 : j < (atB a b l 0).1
      · exact .inl (.inl (List.mem_take_iff_getElem.2 ⟨j, by omega, rfl⟩))
      · refine .inr ?_
        have h2 : nxt a b l ≤ j := by
          unfold nxt
          split
          · rename_i e
            rcases Nat.eq_or_lt_of_le (Nat.le_of_not_lt h1) with h3 | h3
            · exfalso
              obtain ⟨_, h4⟩ := atB_stop a b l 0 (by omega)
              rw [Nat.sub_zero] at h4
              have h5 := h4.1 e
              rw [getD_get _ l _ (by omega)] at h5
              simp only [h3] at h5
              exact hk h5
            · omega
          · omega
        rw [List.mem_drop_iff_getElem]
        exact ⟨j - nxt a b l, by omega, by congr 1; omega⟩
    · refine .inl (.inr ?_)
      unfold ins
      rw [if_neg h0]
      exact List.mem_singleton.2 rfl
theorem ofB_mem : ∀ {l : List SB}, l.Pairwise Lt → ∀ x ∈ l, ofB x.f0 x.f1 l = x.f2
  | [], _, x, hx => by cases hx
  | y :: l, h, x, hx => by
    rw [List.pairwise_cons] at h
    unfold ofB
    rcases List.mem_cons.1 hx with rfl | hx
    · rw [if_pos ⟨rfl, rfl⟩]
    · have := h.1 x hx
      rw [if_neg (by unfold Lt Bef at this; omega)]
      exact ofB_mem h.2 x hx
theorem ofB_put {l : List SB} (h : SortB l) {a b n : Int} (ha : No a) (hb : No b) (hn : Amt n) (c d : Int) : ofB c d (putB l a b n) = if c = a ∧ d = b then n else ofB c d l := by
  have hs := putB_sort h ha hb hn
  by_cases hk : c = a ∧ d = b
  · obtain ⟨rfl, rfl⟩ := hk
    rw [if_pos ⟨rfl, rfl⟩]
    by_cases h0 : n = 0
    · subst h0
      refine ofB_none c d _ fun x hx => ?_
      rcases (mem_putB h c d 0 x).1 hx with ⟨_, g⟩ | ⟨g, _⟩
      · exact g
      · exact absurd rfl g
    · exact ofB_mem hs.2 ⟨c, d, n⟩ ((mem_putB h c d n _).2 (.inr ⟨h0, rfl⟩))
  · rw [if_neg hk]
    by_cases he : ∃ x ∈ l, x.f0 = c ∧ x.f1 = d
    · obtain ⟨x, hx, rfl, rfl⟩ := he
      rw [ofB_mem h.2 x hx, ofB_mem hs.2 x ((mem_putB h a b n x).2 (.inl ⟨hx, fun g => hk ⟨g.1, g.2⟩⟩))]
    · rw [ofB_none c d l fun x hx g => he ⟨x, hx, g⟩]
      refine ofB_none c d _ fun x hx g => ?_
      rcases (mem_putB h a b n x).1 hx with ⟨g1, _⟩ | ⟨_, rfl⟩
      · exact he ⟨x, g1, g⟩
      · exact hk ⟨g.1.symm, g.2.symm⟩
theorem sumB_append (a : Int) : ∀ l m : List SB, sumB a (l ++ m) = sumB a l + sumB a m
  | [], m => by show sumB a m = 0 + sumB a m; omega
  | x :: l, m => by
    show _ + sumB a (l ++ m) = _ + sumB a l + sumB a m
    rw [sumB_append a l m]
    omega
theorem sumB_put {l : List SB} (h : SortB l) (a b n c : Int) : sumB c (putB l a b n) = sumB c l + (if b = c then n - ofB a b l else 0) := by
  have hr := atB_range a b l 0
  have hsplit : sumB c l = sumB c (l.take (atB a b l 0).1) + sumB c (l.drop (atB a b l 0).1) := by rw [← sumB_append, List.take_append_drop]
  have hins : sumB c (ins a b n) = if b = c then n else 0 := by
    unfold ins
    split
    · rename_i h0
      rw [h0]
      split <;> rfl
    · show (if b = c then n else 0) + 0 = _
      omega
  have hmid : sumB c (l.drop (atB a b l 0).1) = sumB c (l.drop (nxt a b l)) + (if b = c then ofB a b l else 0) := by
    unfold nxt
    by_cases e : (atB a b l 0).2 = true
    · have hp := hr.2.2 e
      rw [if_pos e, drop_getD z58 l _ (by omega)]
      obtain ⟨_, h4⟩ := atB_stop a b l 0 (by omega)
      rw [Nat.sub_zero] at h4
      have hk := h4.1 e
      have hx : l.getD (atB a b l 0).1 z58 ∈ l := by rw [getD_get _ l _ (by omega)]; exact List.getElem_mem _
      have ho := ofB_mem h.2 _ hx
      rw [hk.1, hk.2] at ho
      show (if (l.getD (atB a b l 0).1 z58).f1 = c then (l.getD (atB a b l 0).1 z58).f2 else 0) + _ = _
      rw [hk.2, ho]
      omega
    · rw [if_neg e]
      have h0 : ofB a b l = 0 := by
        refine ofB_none a b l fun x hx g => ?_
        obtain ⟨j, hj, rfl⟩ := List.getElem_of_mem hx
        rw [← getD_get z58 l j hj] at g
        by_cases hp : j = (atB a b l 0).1
        · obtain ⟨_, h4⟩ := atB_stop a b l 0 (by omega)
          rw [Nat.sub_zero, ← hp] at h4
          exact e (h4.2 g)
        · exact key_not h a b j hj hp g
      rw [h0]
      split <;> omega
  unfold putB
  rw [sumB_append, sumB_append, hins, hsplit, hmid]
  split <;> omega
noncomputable def balPut (l : List SB) (a b n : Int) : List SB × Bool := if okB l = true ∧ No a ∧ No b ∧ Amt n then (if (putB l a b n).length ≤ 160 then (putB l a b n, true) else ([], false)) else ([], false)
theorem balPut_len (l : List SB) (a b n : Int) : (balPut l a b n).1.length ≤ 160 := by
  unfold balPut
  split
  · split
    · assumption
    · exact Nat.zero_le _
  · exact Nat.zero_le _
theorem balPut_s (l : List SB) (a b n : Int) (hm : l.length ≤ 1048576) : Ev (fun k => spec_BalPut.f k l a b n) (balPut l a b n) := by
  unfold spec_BalPut.f
  have no : ¬ (okB l = true ∧ No a ∧ No b ∧ Amt n) → Ev (fun k => spec_BalPut.j0 k l a b n true) (balPut l a b n) := fun h => by
    unfold balPut
    rw [if_neg h]
    exact Ev_one fun k => by simp only [spec_BalPut.j0]; rw [if_pos trivial]
  refine Ev_bind (balsOk_s l) ?_
  by_cases h1 : okB l = true
  · refine Ev.congr (fun k => by rw [if_pos h1, no_s, Option.bind_some]) ?_
    by_cases h2 : No a
    · refine Ev.congr (fun k => by rw [if_pos (decide_eq_true h2), no_s, Option.bind_some]) ?_
      by_cases h3 : No b
      · refine Ev.congr (fun k => by rw [if_pos (decide_eq_true h3), amt_s, Option.bind_some]) ?_
        by_cases h4 : Amt n
        · rw [decide_eq_true h4]
          refine Ev.step (fun k => by simp only [spec_BalPut.j0]; rw [if_neg (by decide)]) ?_
          have hs := ((okB_sort l).1 ((okB_iff l).1 h1)).2
          refine Ev_bind (put_s hs a b n hm) (Ev_bind (balsOk_s _) ?_)
          have hbp : balPut l a b n = if (putB l a b n).length ≤ 160 then (putB l a b n, true) else ([], false) := if_pos ⟨h1, h2, h3, h4⟩
          rw [hbp]
          by_cases h5 : (putB l a b n).length ≤ 160
          · rw [if_pos h5, (okB_iff _).2 ((okB_sort _).2 ⟨h5, putB_sort hs h2 h3 h4⟩)]
            exact Ev_all_k fun k => rfl
          · rw [if_neg h5, okB_no fun g => h5 g.1]
            exact Ev_all_k fun k => rfl
        · rw [decide_eq_false h4]
          exact no fun g => h4 g.2.2.2
      · exact Ev.congr (fun k => if_neg (by rw [decide_eq_false h3]; decide)) (no fun g => h3 g.2.2.1)
    · exact Ev.congr (fun k => if_neg (by rw [decide_eq_false h2]; decide)) (no fun g => h2 g.2.1)
  · exact Ev.congr (fun k => if_neg h1) (no fun g => h1 g.1)
end Go.Proofs.Ytpcjpjjkaplebaa.B4
namespace Go.Proofs.Ytpcjpjjkaplebaa.G1
open Go Go.RowKit Go.Proofs.Ytpcjpjjkaplebaa.P Go.Proofs.YtpcjpjjkaplebaaW.PrintWords Go.Proofs.YtpcjpjjkaplebaaW.PrintLast Go.Proofs.Ytpcjpjjkaplebaa.EV Go.Proofs.Ytpcjpjjkaplebaa.I1 Go.Proofs.Ytpcjpjjkaplebaa.N1
abbrev SL := S61
theorem rdL (l : List SL) (i : Nat) : rd_T61 l (i : Int) = l.getD i z61 := by unfold rd_T61; rw [Int.toNat_natCast]
def GoodL (x : SL) : Prop := No x.f0 ∧ No x.f1 ∧ Amt x.f2
instance (x : SL) : Decidable (GoodL x) := by unfold GoodL; exact inferInstance
def RightL (l : List SL) : Prop := l.length ≤ 160 ∧ ∀ x ∈ l, GoodL x
noncomputable def rightL (l : List SL) : Bool := @decide (RightL l) (Classical.propDecidable _)
theorem rightL_iff (l : List SL) : rightL l = true ↔ RightL l := by unfold rightL; exact @decide_eq_true_iff _ (Classical.propDecidable _)
theorem rightL_no {l : List SL} (h : ¬ RightL l) : rightL l = false := by rw [Bool.eq_false_iff, Ne, rightL_iff]; exact h
theorem RightL.at {l : List SL} (h : RightL l) (i : Nat) (hi : i < l.length) : GoodL (l.getD i z61) := by
  have : l.getD i z61 = l[i] := by rw [List.getD_eq_getElem?_getD, List.getElem?_eq_getElem hi]; rfl
  rw [this]
  exact h.2 _ (List.getElem_mem hi)
theorem right_s (l : List SL) : Ev (fun k => spec_l4LegsRight.f k l) (rightL l) := by
  unfold spec_l4LegsRight.f
  by_cases hn : (l.length : Int) > 160
  · rw [rightL_no fun h => by have := h.1; omega]
    exact Ev_all_k fun k => by rw [if_pos hn]
  · obtain ⟨r, hr, hiff⟩ := Ev_asks (fun k i => spec_l4LegsRight.l0 k l i) l.length (fun j => GoodL (l.getD j z61)) true
      (Ev_one fun k => by simp only [spec_l4LegsRight.l0]; rw [if_neg (by omega)])
      (fun i hi => by
        have e : ∀ k, spec_l4LegsRight.l0 (k + 1) l (i : Int) = if No (l.getD i z61).f0 then (if No (l.getD i z61).f1 then (if Amt (l.getD i z61).f2 then spec_l4LegsRight.l0 k l ((i + 1 : Nat) : Int) else some false) else some false) else some false := by
          intro k
          simp only [spec_l4LegsRight.l0]
          rw [if_pos (by omega), if_pos (by omega), w_succ hi (by omega)]
          simp only [no_s, amt_s, Option.bind_some, decide_eq_true_iff, rdL]
        by_cases hg : GoodL (l.getD i z61)
        · refine .inl ⟨hg, fun k => ?_⟩
          show spec_l4LegsRight.l0 (k + 1) l (i : Int) = _
          rw [e k, if_pos hg.1, if_pos hg.2.1, if_pos hg.2.2]
        · refine .inr ⟨hg, fun k => ?_⟩
          show spec_l4LegsRight.l0 (k + 1) l (i : Int) = _
          rw [e k]
          unfold GoodL at hg
          split
          · rename_i h1
            split
            · rename_i h2
              split
              · rename_i h3
                exact absurd ⟨h1, h2, h3⟩ hg
              · rfl
            · rfl
          · rfl) l.length 0 (by omega) (by omega)
    have hq : r = rightL l := by
      rw [Bool.eq_iff_iff, hiff, rightL_iff]
      refine ⟨fun h => ⟨by omega, fun x hx => ?_⟩, fun h => ⟨fun j _ hj => h.at j hj, rfl⟩⟩
      obtain ⟨j, hj, rfl⟩ := List.getElem_of_mem hx
      have := h.1 j (Nat.zero_le _) hj
      rw [List.getD_eq_getElem?_getD, List.getElem?_eq_getElem hj] at this
      exact this
    subst hq
    exact Ev.congr (fun k => by rw [if_neg hn]; rfl) hr
theorem right_i (l : List SL) : impl_legsForm.f l = some (rightL l) := by
  unfold impl_legsForm.f
  congr 1
  rw [Bool.eq_iff_iff, rightL_iff, Bool.and_eq_true, decide_eq_true_iff, Bool.not_eq_true', List.any_eq_false]
  unfold RightL
  have e : ∀ x : SL, (¬ impl_legsForm.bad x = true) ↔ GoodL x := fun x => by
    unfold impl_legsForm.bad GoodL No Amt
    rw [Bool.not_eq_true', Bool.not_eq_false, decide_eq_true_iff]
  constructor
  · rintro ⟨h1, h2⟩
    exact ⟨by omega, fun x hx => (e x).1 (h2 x hx)⟩
  · rintro ⟨h1, h2⟩
    exact ⟨by omega, fun x hx => (e x).2 (h2 x hx)⟩
def sumL (a : Int) : List SL → Int
  | [] => 0
  | x :: l => (if x.f1 = a then x.f2 else 0) + sumL a l
theorem sumL_drop (a : Int) (l : List SL) (i : Nat) (hi : i < l.length) : sumL a (l.drop i) = (if (l.getD i z61).f1 = a then (l.getD i z61).f2 else 0) + sumL a (l.drop (i + 1)) := by
  rw [drop_getD z61 l i hi]; rfl
theorem sumL_bound {l : List SL} (h : RightL l) (a : Int) : ∀ (d i : Nat), l.length - i = d → i ≤ l.length → -(1000000000000000 * (l.length - i : Int)) ≤ sumL a (l.drop i) ∧ sumL a (l.drop i) ≤ 1000000000000000 * (l.length - i : Int) := by
  intro d
  induction d with
  | zero =>
    intro i hd hi
    obtain rfl : i = l.length := by omega
    rw [List.drop_length]
    unfold sumL
    omega
  | succ d ih =>
    intro i hd hi
    rw [sumL_drop a l i (by omega)]
    have := ih (i + 1) (by omega) (by omega)
    have g : Amt _ := (h.at i (by omega)).2.2
    unfold Amt at g
    split <;> omega
def EvenL (l : List SL) : Prop := ∀ j, j < l.length → sumL (l.getD j z61).f1 l = 0
def OkL (l : List SL) : Prop := RightL l ∧ EvenL l
noncomputable def okL (l : List SL) : Bool := @decide (OkL l) (Classical.propDecidable _)
theorem okL_iff (l : List SL) : okL l = true ↔ OkL l := by unfold okL; exact @decide_eq_true_iff _ (Classical.propDecidable _)
theorem okL_no {l : List SL} (h : ¬ OkL l) : okL l = false := by rw [Bool.eq_false_iff, Ne, okL_iff]; exact h
theorem legsOk_s (l : List SL) : Ev (fun k => spec_LegsOk.f k l) (okL l) := by
  unfold spec_LegsOk.f
  refine Ev_bind (right_s l) ?_
  by_cases h : RightL l
  · have h1 := h.1
    have hb := fun a i hi => sumL_bound h a (l.length - i) i rfl hi
    obtain ⟨r, hr, hiff⟩ := Ev_asks' (fun k i => spec_LegsOk.l0 k l i) l.length (fun j => sumL (l.getD j z61).f1 l = 0) true
      (Ev_one fun k => by simp only [spec_LegsOk.l0]; rw [if_neg (by omega)])
      (fun i hi => by
        have key : ∀ q, Ev (fun k => if sumL (l.getD i z61).f1 l = 0 then spec_LegsOk.l0 k l ((i + 1 : Nat) : Int) else some false) q → Ev (fun k => spec_LegsOk.l0 k l (i : Int)) q := fun q hq => by
          refine Ev.step (f := fun k => spec_LegsOk.l1 k l (i : Int) 0 0) (fun k => by simp only [spec_LegsOk.l0]; rw [if_pos (by omega)]) ?_
          refine (Ev_goes' (fun k s j => spec_LegsOk.l1 k l (i : Int) s j) l.length (fun _ _ => q) (fun j s => s + sumL (l.getD i z61).f1 (l.drop j) = sumL (l.getD i z61).f1 l)
            (fun s hs => by
              rw [List.drop_length] at hs
              have hs2 : s = sumL (l.getD i z61).f1 l := by rw [← hs]; show s = s + 0; omega
              refine Ev.step (fun k => ?_) hq
              show spec_LegsOk.l1 (k + 1) l (i : Int) s (l.length : Int) = _
              simp only [spec_LegsOk.l1]
              rw [if_neg (by omega), w_succ hi (by omega), hs2])
            (fun j s hj hs => by
              have e := sumL_drop (l.getD i z61).f1 l j hj
              have b0 := hb (l.getD i z61).f1 0 (by omega)
              have b1 := hb (l.getD i z61).f1 (j + 1) (by omega)
              rw [List.drop_zero] at b0
              refine .inr ⟨s + (if (l.getD j z61).f1 = (l.getD i z61).f1 then (l.getD j z61).f2 else 0), by omega, rfl, fun r hr => Ev.step (fun k => ?_) hr⟩
              show spec_LegsOk.l1 (k + 1) l (i : Int) s (j : Int) = _
              simp only [spec_LegsOk.l1, rdL]
              rw [if_pos (by omega), if_pos (by omega), if_pos (by omega), if_pos (by omega), w_succ hj (by omega)]
              by_cases h2 : (l.getD j z61).f1 = (l.getD i z61).f1
              · rw [if_pos h2] at e
                rw [if_pos h2, if_pos h2, w64_in _ (by omega) (by omega)]
              · rw [if_neg h2, if_neg h2, Int.add_zero]) l.length 0 0 (by omega) (by omega) (by rw [List.drop_zero]; omega) : Ev (fun k => spec_LegsOk.l1 k l (i : Int) 0 ((0 : Nat) : Int)) q)
        by_cases hg : sumL (l.getD i z61).f1 l = 0
        · exact .inl ⟨hg, fun r hr => key r (Ev.congr (fun k => by rw [if_pos hg]) hr)⟩
        · exact .inr ⟨hg, key false (Ev_all_k fun k => by rw [if_neg hg])⟩) l.length 0 (by omega) (by omega)
    have hq : r = okL l := by
      rw [Bool.eq_iff_iff, hiff, okL_iff]
      exact ⟨fun g => ⟨h, fun j hj => g.1 j (Nat.zero_le _) hj⟩, fun g => ⟨fun j _ hj => g.2 j hj, rfl⟩⟩
    subst hq
    exact Ev.congr (fun k => by rw [if_pos ((rightL_iff l).2 h)]; rfl) hr
  · rw [okL_no fun g => h g.1]
    exact Ev_all_k fun k => by rw [if_neg (by rw [rightL_no h]; decide)]
theorem legsOk_i (l : List SL) : Ev (fun k => impl_LegsOk.f k l) (okL l) := by
  unfold impl_LegsOk.f
  by_cases h : RightL l
  · have h1 := h.1
    have hb := fun a i hi => sumL_bound h a (l.length - i) i rfl hi
    obtain ⟨r, hr, hiff⟩ := Ev_asks' (fun k i => impl_LegsOk.l0 k l l (l.length : Int) i) l.length (fun j => sumL (l.getD j z61).f1 l = 0) true
      (Ev_one fun k => by simp only [impl_LegsOk.l0]; rw [if_neg (by omega)])
      (fun i hi => by
        have key : ∀ q, Ev (fun k => if sumL (l.getD i z61).f1 l = 0 then impl_LegsOk.l0 k l l (l.length : Int) ((i + 1 : Nat) : Int) else some false) q → Ev (fun k => impl_LegsOk.l0 k l l (l.length : Int) (i : Int)) q := fun q hq => by
          refine Ev.step (f := fun k => impl_LegsOk.l1 k l 0 l (l.length : Int) (i : Int) l (l.length : Int) 0 (l.getD i z61).f0 (l.getD i z61).f1 (l.getD i z61).f2) (fun k => by simp only [impl_LegsOk.l0, rdL]; rw [if_pos (by omega), if_pos (by omega), if_pos (by omega)]) ?_
          refine (Ev_goes' (fun k s j => impl_LegsOk.l1 k l s l (l.length : Int) (i : Int) l (l.length : Int) j (l.getD i z61).f0 (l.getD i z61).f1 (l.getD i z61).f2) l.length (fun _ _ => q) (fun j s => s + sumL (l.getD i z61).f1 (l.drop j) = sumL (l.getD i z61).f1 l)
            (fun s hs => by
              rw [List.drop_length] at hs
              have hs2 : s = sumL (l.getD i z61).f1 l := by rw [← hs]; show s = s + 0; omega
              refine Ev.step (fun k => ?_) hq
              show impl_LegsOk.l1 (k + 1) l s l (l.length : Int) (i : Int) l (l.length : Int) (l.length : Int) _ _ _ = _
              simp only [impl_LegsOk.l1]
              rw [if_neg (by omega), w_succ hi (by omega), hs2])
            (fun j s hj hs => by
              have e := sumL_drop (l.getD i z61).f1 l j hj
              have b0 := hb (l.getD i z61).f1 0 (by omega)
              have b1 := hb (l.getD i z61).f1 (j + 1) (by omega)
              rw [List.drop_zero] at b0
              refine .inr ⟨s + (if (l.getD j z61).f1 = (l.getD i z61).f1 then (l.getD j z61).f2 else 0), by omega, rfl, fun r hr => Ev.step (fun k => ?_) hr⟩
              show impl_LegsOk.l1 (k + 1) l s l (l.length : Int) (i : Int) l (l.length : Int) (j : Int) _ _ _ = _
              simp only [impl_LegsOk.l1, rdL]
              rw [if_pos (by omega), if_pos (by omega), if_pos (by omega), w_succ hj (by omega)]
              by_cases h2 : (l.getD j z61).f1 = (l.getD i z61).f1
              · rw [if_pos h2] at e
                rw [if_pos h2, if_pos h2, w64_in _ (by omega) (by omega)]
              · rw [if_neg h2, if_neg h2, Int.add_zero]) l.length 0 0 (by omega) (by omega) (by rw [List.drop_zero]; omega) : Ev (fun k => impl_LegsOk.l1 k l 0 l (l.length : Int) (i : Int) l (l.length : Int) ((0 : Nat) : Int) (l.getD i z61).f0 (l.getD i z61).f1 (l.getD i z61).f2) q)
        by_cases hg : sumL (l.getD i z61).f1 l = 0
        · exact .inl ⟨hg, fun r hr => key r (Ev.congr (fun k => by rw [if_pos hg]) hr)⟩
        · exact .inr ⟨hg, key false (Ev_all_k fun k => by rw [if_neg hg])⟩) l.length 0 (by omega) (by omega)
    have hq : r = okL l := by
      rw [Bool.eq_iff_iff, hiff, okL_iff]
      exact ⟨fun g => ⟨h, fun j hj => g.1 j (Nat.zero_le _) hj⟩, fun g => ⟨fun j _ hj => g.2 j hj, rfl⟩⟩
    subst hq
    exact Ev.congr (fun k => by rw [right_i, Option.bind_some, if_pos ((rightL_iff l).2 h)]; rfl) hr
  · rw [okL_no fun g => h g.1]
    exact Ev_all_k fun k => by rw [right_i, Option.bind_some, if_neg (by rw [rightL_no h]; decide)]
end Go.Proofs.Ytpcjpjjkaplebaa.G1
namespace Go.Proofs.Ytpcjpjjkaplebaa.B5
open Go Go.RowKit Go.Proofs.Ytpcjpjjkaplebaa.P Go.Proofs.YtpcjpjjkaplebaaW.PrintWords Go.Proofs.YtpcjpjjkaplebaaW.PrintLast Go.Proofs.Ytpcjpjjkaplebaa.EV Go.Proofs.Ytpcjpjjkaplebaa.I1 Go.Proofs.Ytpcjpjjkaplebaa.N1 Go.Proofs.Ytpcjpjjkaplebaa.B1 Go.Proofs.Ytpcjpjjkaplebaa.B2 Go.Proofs.Ytpcjpjjkaplebaa.B3 Go.Proofs.Ytpcjpjjkaplebaa.B4 Go.Proofs.Ytpcjpjjkaplebaa.G1
theorem rdi (l : List Int) (i : Nat) : rd l (i : Int) = l.getD i 0 := by unfold rd; rw [Int.toNat_natCast]
def hasI (l : List Int) (x : Int) : Bool := l.any (fun y => y == x)
theorem hasI_drop (l : List Int) (x : Int) (i : Nat) (hi : i < l.length) : hasI (l.drop i) x = ((l.getD i 0 == x) || hasI (l.drop (i + 1)) x) := by
  rw [drop_getD 0 l i hi]; rfl
theorem has_s (l : List Int) (x : Int) (hm : l.length ≤ 9223372036854775807) : Ev (fun k => spec_l4Has.f k l x) (hasI l x) := by
  unfold spec_l4Has.f
  have h := Ev_goes (fun k (_ : Unit) i => spec_l4Has.l0 k l x i) l.length (fun i _ => hasI (l.drop i) x) (fun _ _ => True)
    (fun _ _ => Ev_one fun k => by
      simp only [spec_l4Has.l0]
      rw [if_neg (by omega), List.drop_length]
      rfl)
    (fun i _ hi _ => by
      by_cases h : l.getD i 0 = x
      · refine .inl (Ev_one fun k => ?_)
        simp only [spec_l4Has.l0, rdi]
        rw [if_pos (by omega), if_pos (by omega), if_pos h, hasI_drop l x i hi, beq_iff_eq.2 h]
        rfl
      · refine .inr ⟨(), trivial, by show hasI (l.drop (i + 1)) x = hasI (l.drop i) x; rw [hasI_drop l x i hi, beq_eq_false_iff_ne.2 h]; rfl, fun k => ?_⟩
        show spec_l4Has.l0 (k + 1) l x (i : Int) = _
        simp only [spec_l4Has.l0, rdi]
        rw [if_pos (by omega), if_pos (by omega), if_neg h, w_succ hi (by omega)]) l.length 0 () (by omega) (by omega) trivial
  rw [List.drop_zero] at h
  exact h
theorem has_i (l : List Int) (x : Int) (hm : l.length ≤ 9223372036854775807) : Ev (fun k => slices_Contains_int_int.f k l x) (hasI l x) := by
  unfold slices_Contains_int_int.f slices_Index_int_int.f
  have h : ∃ r : Int, Ev (fun k => slices_Index_int_int.l0 k l x (l.length : Int) 0) r ∧ decide (r ≥ 0) = hasI l x := by
    have key : ∀ (d i : Nat), l.length - i = d → i ≤ l.length → ∃ r : Int, Ev (fun k => slices_Index_int_int.l0 k l x (l.length : Int) (i : Int)) r ∧ decide (r ≥ 0) = hasI (l.drop i) x := by
      intro d
      induction d with
      | zero =>
        intro i hd hi
        obtain rfl : i = l.length := by omega
        refine ⟨-1, Ev_one fun k => ?_, by rw [List.drop_length]; rfl⟩
        simp only [slices_Index_int_int.l0]
        rw [if_neg (by omega)]
      | succ d ih =>
        intro i hd hi
        have hi2 : i < l.length := by omega
        by_cases h : l.getD i 0 = x
        · refine ⟨(i : Int), Ev_one fun k => ?_, ?_⟩
          · simp only [slices_Index_int_int.l0, rdi]
            rw [if_pos (by omega), if_pos (by omega), if_pos (by omega), if_pos h.symm]
          · rw [hasI_drop l x i hi2, beq_iff_eq.2 h, decide_eq_true (by omega)]
            rfl
        · obtain ⟨r, hr, e⟩ := ih (i + 1) (by omega) (by omega)
          refine ⟨r, Ev.step (fun k => ?_) hr, ?_⟩
          · simp only [slices_Index_int_int.l0, rdi]
            rw [if_pos (by omega), if_pos (by omega), if_pos (by omega), if_neg (fun g => h g.symm), w_succ hi2 (by omega)]
          · rw [e, hasI_drop l x i hi2, beq_eq_false_iff_ne.2 h]
            rfl
    have := key l.length 0 (by omega) (by omega)
    rw [List.drop_zero] at this
    exact this
  obtain ⟨r, hr, e⟩ := h
  refine Ev_bind hr ?_
  rw [e]
  exact Ev.now _
theorem of_i2 {l : List SB} (h : SortB l) (a b : Int) (hm : l.length ≤ 9223372036854775807) : Ev (fun k => impl_balOf.f k l a b) (ofB a b l) := by
  unfold impl_balOf.f
  refine Ev_bind (at_i l a b hm) ?_
  have g := at_of (sortB_good h) a b l.length 0 (by omega) (by omega)
  have r := atB_range a b l 0
  rw [List.drop_zero] at g
  rw [← g]
  by_cases h2 : (atB a b l 0).2 = true
  · refine Ev_all_k fun k => ?_
    have := r.2.2 h2
    rw [if_pos h2, if_pos h2, if_pos (by show (0 : Int) ≤ ((atB a b l 0).1 : Int); omega), if_pos (by show ((atB a b l 0).1 : Int) < _; omega), rdB]
  · refine Ev_all_k fun k => ?_
    rw [if_neg h2, if_neg h2]
theorem ofB_amt {l : List SB} (h : SortB l) (a b : Int) : Amt (ofB a b l) := by
  by_cases he : ∃ x ∈ l, x.f0 = a ∧ x.f1 = b
  · obtain ⟨x, hx, rfl, rfl⟩ := he
    rw [ofB_mem h.2 x hx]
    exact (h.1 x hx).2.2.1
  · rw [ofB_none a b l fun x hx g => he ⟨x, hx, g⟩]
    unfold Amt
    omega
def newB (l : List SB) (x : SL) : Int := ofB x.f0 x.f1 l + x.f2
def goP : List SB → List SL → Option (List SB)
  | l, [] => some l
  | l, x :: r => if Amt (newB l x) then goP (putB l x.f0 x.f1 (newB l x)) r else none
theorem goP_sort : ∀ {r : List SL} {l o : List SB}, SortB l → (∀ x ∈ r, GoodL x) → goP l r = some o → SortB o ∧ o.length ≤ l.length + r.length
  | [], l, o, h, _, e => by
    injection e with e
    subst e
    exact ⟨h, Nat.le_refl _⟩
  | x :: r, l, o, h, hr, e => by
    unfold goP at e
    have gx := hr x List.mem_cons_self
    split at e
    · rename_i ha
      have := goP_sort (putB_sort h gx.1 gx.2.1 ha) (fun y hy => hr y (List.mem_cons_of_mem _ hy)) e
      have hl := putB_len l x.f0 x.f1 (newB l x)
      exact ⟨this.1, by rw [List.length_cons]; omega⟩
    · cases e
def shortB (o : List SB) (short : List Int) (x : SL) : Bool := !hasI short x.f0 && decide (ofB x.f0 x.f1 o < 0)
def endB (l o : List SB) (legs : List SL) (short : List Int) : List SB × Int := if legs.any (shortB o short) = true then (l, 3) else (if o.length ≤ 160 then (o, 0) else (l, 5))
def mainB (l : List SB) (legs : List SL) (short : List Int) : List SB × Int := match goP l legs with
  | none => (l, 4)
  | some o => endB l o legs short
noncomputable def postB (l : List SB) (legs : List SL) (short : List Int) : List SB × Int :=
  if okB l = true ∧ rightL legs = true ∧ short.length ≤ 20 then (if okL legs = true then mainB l legs short else (l, 2)) else ([], 1)
theorem leg_at {legs : List SL} (h : RightL legs) (i : Nat) (hi : i < legs.length) : GoodL (legs.getD i z61) := h.at i hi
theorem end_i {l o : List SB} {legs : List SL} {short : List Int} (ho : SortB o) (hol : o.length ≤ 1048576) (hl : legs.length ≤ 160) (hs : short.length ≤ 20) : Ev (fun k => impl_BalsPost.l1 k short l o legs (legs.length : Int) 0) (endB l o legs short) := by
  have h := Ev_goes' (fun k (_ : Unit) i => impl_BalsPost.l1 k short l o legs (legs.length : Int) i) legs.length (fun i _ => if (legs.drop i).any (shortB o short) = true then (l, 3) else (if o.length ≤ 160 then (o, 0) else (l, 5))) (fun _ _ => True)
    (fun _ _ => Ev_one fun k => by
      simp only [impl_BalsPost.l1]
      rw [if_neg (by omega), List.drop_length]
      show _ = some (if o.length ≤ 160 then (o, 0) else (l, 5))
      by_cases h : o.length ≤ 160
      · rw [if_neg (by omega), if_pos h]
      · rw [if_pos (by omega), if_neg h])
    (fun i _ hi _ => by
      have e : ∀ k, impl_BalsPost.l1 (k + 1) short l o legs (legs.length : Int) (i : Int) = (slices_Contains_int_int.f k short (legs.getD i z61).f0).bind fun t => if t = true then impl_BalsPost.l1 k short l o legs (legs.length : Int) ((i + 1 : Nat) : Int) else (impl_balOf.f k o (legs.getD i z61).f0 (legs.getD i z61).f1).bind fun t2 => if t2 < 0 then some (l, 3) else impl_BalsPost.l1 k short l o legs (legs.length : Int) ((i + 1 : Nat) : Int) := by
        intro k
        simp only [impl_BalsPost.l1, rdL]
        rw [if_pos (by omega), if_pos (by omega), if_pos (by omega), w_succ hi (by omega)]
      have hd : (legs.drop i).any (shortB o short) = (shortB o short (legs.getD i z61) || (legs.drop (i + 1)).any (shortB o short)) := by rw [drop_getD z61 legs i hi]; rfl
      cases hc : hasI short (legs.getD i z61).f0 with
      | true =>
        have hsb : shortB o short (legs.getD i z61) = false := by unfold shortB; rw [hc]; rfl
        refine .inr ⟨(), trivial, by rw [hd, hsb, Bool.false_or], fun r hr => ?_⟩
        refine Ev.step e (Ev_bind (has_i short _ (by omega)) ?_)
        rw [hc]
        exact Ev.congr (fun k => if_pos rfl) hr
      | false =>
        by_cases h0 : ofB (legs.getD i z61).f0 (legs.getD i z61).f1 o < 0
        · have hsb : shortB o short (legs.getD i z61) = true := by unfold shortB; rw [hc, decide_eq_true h0]; rfl
          refine .inl ?_
          rw [hd, hsb, Bool.true_or, if_pos rfl]
          refine Ev.step e (Ev_bind (has_i short _ (by omega)) ?_)
          rw [hc]
          refine Ev.congr (fun k => if_neg (by decide)) ?_
          exact Ev_bind (of_i2 ho _ _ (by omega)) (Ev_all_k fun k => if_pos h0)
        · have hsb : shortB o short (legs.getD i z61) = false := by unfold shortB; rw [hc, decide_eq_false h0]; rfl
          refine .inr ⟨(), trivial, by rw [hd, hsb, Bool.false_or], fun r hr => ?_⟩
          refine Ev.step e (Ev_bind (has_i short _ (by omega)) ?_)
          rw [hc]
          refine Ev.congr (fun k => if_neg (by decide)) ?_
          exact Ev_bind (of_i2 ho _ _ (by omega)) (Ev.congr (fun k => if_neg h0) hr)) legs.length 0 () (by omega) (by omega) trivial
  rw [List.drop_zero] at h
  exact h
theorem clone_s (x : List SB) (hx : x.length ≤ 1048577) : ([] : List SB).length + x.length < 5864062014805 := by simp; omega
theorem end_s {l o : List SB} {legs : List SL} {short : List Int} (hl1 : l.length ≤ 1048576) (hol : o.length ≤ 1048576) (hl : legs.length ≤ 160) (hs : short.length ≤ 20) : Ev (fun k => spec_BalsPost.l1 k l legs short o 0) (endB l o legs short) := by
  have h := Ev_goes' (fun k (_ : Unit) i => spec_BalsPost.l1 k l legs short o i) legs.length (fun i _ => if (legs.drop i).any (shortB o short) = true then (l, 3) else (if o.length ≤ 160 then (o, 0) else (l, 5))) (fun _ _ => True)
    (fun _ _ => Ev_one fun k => by
      simp only [spec_BalsPost.l1, Option.bind_some]
      rw [if_neg (by omega), List.drop_length]
      show _ = some (if o.length ≤ 160 then (o, 0) else (l, 5))
      by_cases h : o.length ≤ 160
      · rw [if_neg (by omega), if_pos h]
      · rw [if_pos (by omega), if_pos (clone_s l (by omega)), List.nil_append, if_neg h])
    (fun i _ hi _ => by
      have e : ∀ k, spec_BalsPost.l1 (k + 1) l legs short o (i : Int) = (spec_l4Of.f k o (legs.getD i z61).f0 (legs.getD i z61).f1).bind fun t2 => if t2 < 0 then (spec_l4Has.f k short (legs.getD i z61).f0).bind (fun t => if t = true then spec_BalsPost.l1 k l legs short o ((i + 1 : Nat) : Int) else some (l, 3)) else spec_BalsPost.l1 k l legs short o ((i + 1 : Nat) : Int) := by
        intro k
        simp only [spec_BalsPost.l1, rdL, Option.bind_some]
        rw [if_pos (by omega), if_pos (by omega), w_succ hi (by omega)]
        simp only [if_pos (clone_s l (by omega)), List.nil_append]
      have hd : (legs.drop i).any (shortB o short) = (shortB o short (legs.getD i z61) || (legs.drop (i + 1)).any (shortB o short)) := by rw [drop_getD z61 legs i hi]; rfl
      by_cases h0 : ofB (legs.getD i z61).f0 (legs.getD i z61).f1 o < 0
      · cases hc : hasI short (legs.getD i z61).f0 with
        | true =>
          have hsb : shortB o short (legs.getD i z61) = false := by unfold shortB; rw [hc]; rfl
          refine .inr ⟨(), trivial, by rw [hd, hsb, Bool.false_or], fun r hr => ?_⟩
          refine Ev.step e (Ev_bind (of_s o _ _ (by omega)) (Ev.congr (fun k => if_pos h0) (Ev_bind (has_s short _ (by omega)) ?_)))
          rw [hc]
          exact Ev.congr (fun k => if_pos rfl) hr
        | false =>
          have hsb : shortB o short (legs.getD i z61) = true := by unfold shortB; rw [hc, decide_eq_true h0]; rfl
          refine .inl ?_
          rw [hd, hsb, Bool.true_or, if_pos rfl]
          refine Ev.step e (Ev_bind (of_s o _ _ (by omega)) (Ev.congr (fun k => if_pos h0) (Ev_bind (has_s short _ (by omega)) ?_)))
          rw [hc]
          exact Ev_all_k fun k => rfl
      · have hsb : shortB o short (legs.getD i z61) = false := by unfold shortB; rw [decide_eq_false h0, Bool.and_false]
        refine .inr ⟨(), trivial, by rw [hd, hsb, Bool.false_or], fun r hr => ?_⟩
        exact Ev.step e (Ev_bind (of_s o _ _ (by omega)) (Ev.congr (fun k => if_neg h0) hr))) legs.length 0 () (by omega) (by omega) trivial
  rw [List.drop_zero] at h
  exact h
theorem addIn_s (a b : Int) (ha : Amt a) (hb : Amt b) : spec_AddIn.f a b = some (told (a + b) true) := by
  unfold spec_AddIn.f
  have e : wrap64 (a + b) = a + b := by unfold Amt at ha hb; exact w64_in _ (by omega) (by omega)
  rw [amt_s, Option.bind_some, if_pos (decide_eq_true ha), amt_s, Option.bind_some, decide_eq_true hb, e, told_s]
  rfl
theorem go_i {l : List SB} {legs : List SL} {short : List Int} (h : OkB l) (hr : RightL legs) (hs : short.length ≤ 20) : Ev (fun k => impl_BalsPost.l0 k legs short l l legs (legs.length : Int) 0) (mainB l legs short) := by
  have hl := hr.1
  have hl1 := h.1
  have hsl := ((okB_sort l).1 h).2
  refine Ev_goes' (fun k (s : List SB) i => impl_BalsPost.l0 k legs short l s legs (legs.length : Int) i) legs.length (fun _ _ => mainB l legs short) (fun i s => goP s (legs.drop i) = goP l legs ∧ SortB s ∧ s.length ≤ 160 + i)
    (fun s hi => ?_) (fun i s hi hv => ?_) legs.length 0 l (by omega) (by omega) ⟨by rw [List.drop_zero], hsl, by omega⟩
  · obtain ⟨h1, h2, h3⟩ := hi
    rw [List.drop_length] at h1
    have hm : mainB l legs short = endB l s legs short := by unfold mainB; rw [← h1]; rfl
    rw [hm]
    refine Ev.step (fun k => ?_) (end_i h2 (by omega) hl hs)
    simp only [impl_BalsPost.l0]
    rw [if_neg (by omega)]
  · obtain ⟨h1, h2, h3⟩ := hv
    have gx := leg_at hr i hi
    have ga := ofB_amt h2 (legs.getD i z61).f0 (legs.getD i z61).f1
    have gb := gx.2.2
    have hw : wrap64 (ofB (legs.getD i z61).f0 (legs.getD i z61).f1 s + (legs.getD i z61).f2) = newB s (legs.getD i z61) := by
      unfold newB
      unfold Amt at ga gb
      exact w64_in _ (by omega) (by omega)
    rw [drop_getD z61 legs i hi] at h1
    have e : ∀ k, impl_BalsPost.l0 (k + 1) legs short l s legs (legs.length : Int) (i : Int) = (impl_balOf.f k s (legs.getD i z61).f0 (legs.getD i z61).f1).bind fun t => (impl_AmountOk.f (wrap64 (t + (legs.getD i z61).f2))).bind fun t2 => if t2 = true then (impl_withBal.f k s (legs.getD i z61).f0 (legs.getD i z61).f1 (wrap64 (t + (legs.getD i z61).f2))).bind (fun t3 => impl_BalsPost.l0 k legs short l t3 legs (legs.length : Int) ((i + 1 : Nat) : Int)) else some (l, 4) := by
      intro k
      simp only [impl_BalsPost.l0, rdL]
      rw [if_pos (by omega), if_pos (by omega), if_pos (by omega), w_succ hi (by omega)]
    by_cases hA : Amt (newB s (legs.getD i z61))
    · refine .inr ⟨putB s (legs.getD i z61).f0 (legs.getD i z61).f1 (newB s (legs.getD i z61)), ⟨?_, putB_sort h2 gx.1 gx.2.1 hA, ?_⟩, rfl, fun r hq => ?_⟩
      · rw [← h1]
        conv => rhs; unfold goP
        rw [if_pos hA]
      · have := putB_len s (legs.getD i z61).f0 (legs.getD i z61).f1 (newB s (legs.getD i z61))
        omega
      · refine Ev.step e (Ev_bind (of_i2 h2 _ _ (by omega)) ?_)
        rw [hw]
        refine Ev.congr (fun k => by rw [amt_i, Option.bind_some, if_pos (decide_eq_true hA)]) ?_
        exact Ev_bind (put_i s _ _ _ (by omega)) hq
    · refine .inl ?_
      have hm : mainB l legs short = (l, 4) := by
        unfold mainB
        rw [← h1]
        unfold goP
        rw [if_neg hA]
      rw [hm]
      refine Ev.step e (Ev_bind (of_i2 h2 _ _ (by omega)) ?_)
      rw [hw]
      exact Ev_all_k fun k => by rw [amt_i, Option.bind_some, if_neg (by rw [decide_eq_false hA]; decide)]
theorem go_s {l : List SB} {legs : List SL} {short : List Int} (h : OkB l) (hr : RightL legs) (hs : short.length ≤ 20) : Ev (fun k => spec_BalsPost.l0 k l legs short l 0) (mainB l legs short) := by
  have hl := hr.1
  have hl1 := h.1
  have hsl := ((okB_sort l).1 h).2
  refine Ev_goes' (fun k (s : List SB) i => spec_BalsPost.l0 k l legs short s i) legs.length (fun _ _ => mainB l legs short) (fun i s => goP s (legs.drop i) = goP l legs ∧ SortB s ∧ s.length ≤ 160 + i)
    (fun s hi => ?_) (fun i s hi hv => ?_) legs.length 0 l (by omega) (by omega) ⟨by rw [List.drop_zero], hsl, by omega⟩
  · obtain ⟨h1, h2, h3⟩ := hi
    rw [List.drop_length] at h1
    have hm : mainB l legs short = endB l s legs short := by unfold mainB; rw [← h1]; rfl
    rw [hm]
    refine Ev.step (fun k => ?_) (end_s (by omega) (by omega) hl hs)
    simp only [spec_BalsPost.l0]
    rw [if_neg (by omega)]
  · obtain ⟨h1, h2, h3⟩ := hv
    have gx := leg_at hr i hi
    have ga := ofB_amt h2 (legs.getD i z61).f0 (legs.getD i z61).f1
    have gb := gx.2.2
    rw [drop_getD z61 legs i hi] at h1
    have e : ∀ k, spec_BalsPost.l0 (k + 1) l legs short s (i : Int) = (spec_l4Of.f k s (legs.getD i z61).f0 (legs.getD i z61).f1).bind fun t => (spec_AddIn.f t (legs.getD i z61).f2).bind fun t2 => if t2.2 = true then (spec_l4Put.f k s (legs.getD i z61).f0 (legs.getD i z61).f1 t2.1).bind (fun t3 => spec_BalsPost.l0 k l legs short t3 ((i + 1 : Nat) : Int)) else some (l, 4) := by
      intro k
      simp only [spec_BalsPost.l0, rdL, Option.bind_some]
      rw [if_pos (by omega), if_pos (by omega), w_succ hi (by omega)]
      simp only [if_pos (clone_s l (by omega)), List.nil_append]
    by_cases hA : Amt (newB s (legs.getD i z61))
    · refine .inr ⟨putB s (legs.getD i z61).f0 (legs.getD i z61).f1 (newB s (legs.getD i z61)), ⟨?_, putB_sort h2 gx.1 gx.2.1 hA, ?_⟩, rfl, fun r hq => ?_⟩
      · rw [← h1]
        conv => rhs; unfold goP
        rw [if_pos hA]
      · have := putB_len s (legs.getD i z61).f0 (legs.getD i z61).f1 (newB s (legs.getD i z61))
        omega
      · refine Ev.step e (Ev_bind (of_s s _ _ (by omega)) ?_)
        have ht : told (ofB (legs.getD i z61).f0 (legs.getD i z61).f1 s + (legs.getD i z61).f2) true = (newB s (legs.getD i z61), true) := if_pos ⟨rfl, hA⟩
        refine Ev.congr (fun k => by rw [addIn_s _ _ ga gb, Option.bind_some, ht, if_pos rfl]) ?_
        exact Ev_bind (put_s h2 _ _ _ (by omega)) hq
    · refine .inl ?_
      have hm : mainB l legs short = (l, 4) := by
        unfold mainB
        rw [← h1]
        unfold goP
        rw [if_neg hA]
      rw [hm]
      refine Ev.step e (Ev_bind (of_s s _ _ (by omega)) ?_)
      have ht : told (ofB (legs.getD i z61).f0 (legs.getD i z61).f1 s + (legs.getD i z61).f2) true = (0, false) := if_neg fun g => hA g.2
      exact Ev_all_k fun k => by rw [addIn_s _ _ ga gb, Option.bind_some, ht, if_neg (by decide)]
theorem post_i (l : List SB) (legs : List SL) (short : List Int) (hm : l.length ≤ 1048576) (hs : short.length ≤ 9223372036854775807) : Ev (fun k => impl_BalsPost.f k l legs short) (postB l legs short) := by
  unfold impl_BalsPost.f
  have no : ¬ (okB l = true ∧ rightL legs = true ∧ short.length ≤ 20) → Ev (fun k => impl_BalsPost.j0 k l legs short true) (postB l legs short) := fun h => by
    have hp : postB l legs short = ([], 1) := if_neg h
    rw [hp]
    exact Ev_one fun k => by simp only [impl_BalsPost.j0]; rw [if_pos trivial]
  refine Ev_bind (balsOk_i l (by omega)) ?_
  by_cases h1 : okB l = true
  · refine Ev.congr (fun k => by rw [if_pos h1, right_i, Option.bind_some]) ?_
    by_cases h2 : rightL legs = true
    · refine Ev.congr (fun k => by rw [if_pos h2]) ?_
      by_cases h3 : short.length ≤ 20
      · rw [decide_eq_false (show ¬ (short.length : Int) > 20 by omega)]
        have ho := (okB_iff l).1 h1
        have hr := (rightL_iff legs).1 h2
        have hl1 := ho.1
        have hp : postB l legs short = if okL legs = true then mainB l legs short else (l, 2) := if_pos ⟨h1, h2, h3⟩
        rw [hp]
        refine Ev.step (fun k => by simp only [impl_BalsPost.j0]; rw [if_neg (by decide), clone_i l (by omega), Option.bind_some]) ?_
        refine Ev_bind (legsOk_i legs) ?_
        by_cases h4 : okL legs = true
        · rw [if_pos h4]
          exact Ev.congr (fun k => by rw [if_pos h4, Option.bind_some]) (go_i ho hr h3)
        · rw [if_neg h4]
          exact Ev_all_k fun k => if_neg h4
      · rw [decide_eq_true (show (short.length : Int) > 20 by omega)]
        exact no fun g => h3 g.2.2
    · exact Ev.congr (fun k => if_neg h2) (no fun g => h2 g.2.1)
  · exact Ev.congr (fun k => if_neg h1) (no fun g => h1 g.1)
theorem post_s (l : List SB) (legs : List SL) (short : List Int) (hs : short.length ≤ 9223372036854775807) : Ev (fun k => spec_BalsPost.f k l legs short) (postB l legs short) := by
  unfold spec_BalsPost.f
  have no : ¬ (okB l = true ∧ rightL legs = true ∧ short.length ≤ 20) → Ev (fun k => spec_BalsPost.j0 k l legs short true) (postB l legs short) := fun h => by
    have hp : postB l legs short = ([], 1) := if_neg h
    rw [hp]
    exact Ev_one fun k => by simp only [spec_BalsPost.j0]; rw [if_pos trivial]
  refine Ev_bind (balsOk_s l) ?_
  by_cases h1 : okB l = true
  · refine Ev.congr (fun k => by rw [if_pos h1]) (Ev_bind (right_s legs) ?_)
    by_cases h2 : rightL legs = true
    · refine Ev.congr (fun k => by rw [if_pos h2]) ?_
      by_cases h3 : short.length ≤ 20
      · rw [decide_eq_false (show ¬ (short.length : Int) > 20 by omega)]
        have ho := (okB_iff l).1 h1
        have hr := (rightL_iff legs).1 h2
        have hl1 := ho.1
        have hp : postB l legs short = if okL legs = true then mainB l legs short else (l, 2) := if_pos ⟨h1, h2, h3⟩
        rw [hp]
        refine Ev.step (fun k => by simp only [spec_BalsPost.j0, Option.bind_some]; rw [if_neg (by decide), if_pos (clone_s l (by omega)), List.nil_append]) ?_
        refine Ev_bind (legsOk_s legs) ?_
        by_cases h4 : okL legs = true
        · rw [if_pos h4]
          exact Ev.congr (fun k => if_pos h4) (go_s ho hr h3)
        · rw [if_neg h4]
          exact Ev_all_k fun k => if_neg h4
      · rw [decide_eq_true (show (short.length : Int) > 20 by omega)]
        exact no fun g => h3 g.2.2
    · exact Ev.congr (fun k => if_neg h2) (no fun g => h2 g.2.1)
  · exact Ev.congr (fun k => if_neg h1) (no fun g => h1 g.1)
end Go.Proofs.Ytpcjpjjkaplebaa.B5
namespace Go.Proofs.Ytpcjpjjkaplebaa.B6
open Go Go.RowKit Go.Proofs.Ytpcjpjjkaplebaa.P Go.Proofs.YtpcjpjjkaplebaaW.PrintWords Go.Proofs.YtpcjpjjkaplebaaW.PrintLast Go.Proofs.Ytpcjpjjkaplebaa.EV Go.Proofs.Ytpcjpjjkaplebaa.I1 Go.Proofs.Ytpcjpjjkaplebaa.N1 Go.Proofs.Ytpcjpjjkaplebaa.B1 Go.Proofs.Ytpcjpjjkaplebaa.B2 Go.Proofs.Ytpcjpjjkaplebaa.B3 Go.Proofs.Ytpcjpjjkaplebaa.B4 Go.Proofs.Ytpcjpjjkaplebaa.G1 Go.Proofs.Ytpcjpjjkaplebaa.B5
def legSum (a b : Int) : List SL → Int
  | [] => 0
  | x :: l => (if x.f0 = a ∧ x.f1 = b then x.f2 else 0) + legSum a b l
theorem goP_of : ∀ {r : List SL} {l o : List SB}, SortB l → (∀ x ∈ r, GoodL x) → goP l r = some o → ∀ c d, ofB c d o = ofB c d l + legSum c d r
  | [], l, o, _, _, e, c, d => by
    injection e with e
    subst e
    show _ = _ + 0
    omega
  | x :: r, l, o, h, hr, e, c, d => by
    unfold goP at e
    have gx := hr x List.mem_cons_self
    split at e
    · rename_i ha
      rw [goP_of (putB_sort h gx.1 gx.2.1 ha) (fun y hy => hr y (List.mem_cons_of_mem _ hy)) e c d, ofB_put h gx.1 gx.2.1 ha]
      show _ = ofB c d l + ((if x.f0 = c ∧ x.f1 = d then x.f2 else 0) + legSum c d r)
      by_cases g : c = x.f0 ∧ d = x.f1
      · rw [if_pos g, if_pos ⟨g.1.symm, g.2.symm⟩, g.1, g.2]
        unfold newB
        omega
      · rw [if_neg g, if_neg fun g2 => g ⟨g2.1.symm, g2.2.symm⟩]
        omega
    · cases e
theorem goP_sum : ∀ {r : List SL} {l o : List SB}, SortB l → (∀ x ∈ r, GoodL x) → goP l r = some o → ∀ c, sumB c o = sumB c l + sumL c r
  | [], l, o, _, _, e, c => by
    injection e with e
    subst e
    show _ = _ + 0
    omega
  | x :: r, l, o, h, hr, e, c => by
    unfold goP at e
    have gx := hr x List.mem_cons_self
    split at e
    · rename_i ha
      rw [goP_sum (putB_sort h gx.1 gx.2.1 ha) (fun y hy => hr y (List.mem_cons_of_mem _ hy)) e c, sumB_put h]
      show _ = sumB c l + ((if x.f1 = c then x.f2 else 0) + sumL c r)
      unfold newB
      split <;> omega
    · cases e
theorem evenL_iff (r : List SL) : EvenL r ↔ ∀ x ∈ r, sumL x.f1 r = 0 := by
  constructor
  · intro h x hx
    obtain ⟨j, hj, rfl⟩ := List.getElem_of_mem hx
    have := h j hj
    rw [getD_get _ r j hj] at this
    exact this
  · intro h j hj
    rw [getD_get _ r j hj]
    exact h _ (List.getElem_mem hj)
theorem postB_cases (l : List SB) (legs : List SL) (short : List Int) :
    (postB l legs short = ([], 1)) ∨ (∃ c, postB l legs short = (l, c) ∧ (c = 2 ∧ okL legs = false ∨ (c = 3 ∨ c = 4 ∨ c = 5) ∧ okL legs = true)) ∨
    (∃ o, postB l legs short = (o, 0) ∧ okB l = true ∧ okL legs = true ∧ short.length ≤ 20 ∧ goP l legs = some o ∧ o.length ≤ 160 ∧ legs.any (shortB o short) = false) := by
  unfold postB
  by_cases h : okB l = true ∧ rightL legs = true ∧ short.length ≤ 20
  · rw [if_pos h]
    by_cases h2 : okL legs = true
    · rw [if_pos h2]
      unfold mainB
      cases hg : goP l legs with
      | none => exact .inr (.inl ⟨4, rfl, .inr ⟨by omega, h2⟩⟩)
      | some o =>
        show _ ∨ (∃ c, endB l o legs short = (l, c) ∧ _) ∨ (∃ o', endB l o legs short = (o', 0) ∧ _)
        unfold endB
        cases ha : legs.any (shortB o short) with
        | true =>
          rw [if_pos rfl]
          exact .inr (.inl ⟨3, rfl, .inr ⟨by omega, h2⟩⟩)
        | false =>
          rw [if_neg (by decide)]
          by_cases hl : o.length ≤ 160
          · rw [if_pos hl]
            exact .inr (.inr ⟨o, rfl, h.1, h2, h.2.2, rfl, hl, ha⟩)
          · rw [if_neg hl]
            exact .inr (.inl ⟨5, rfl, .inr ⟨by omega, h2⟩⟩)
    · rw [if_neg h2]
      exact .inr (.inl ⟨2, rfl, .inl ⟨rfl, by simpa using h2⟩⟩)
  · rw [if_neg h]
    exact .inl rfl
end Go.Proofs.Ytpcjpjjkaplebaa.B6
namespace Go.Proofs.Ytpcjpjjkaplebaa.D3
open Go Go.RowKit Go.Proofs.Ytpcjpjjkaplebaa.P Go.Proofs.YtpcjpjjkaplebaaW.PrintWords Go.Proofs.YtpcjpjjkaplebaaW.PrintLast Go.Proofs.Ytpcjpjjkaplebaa.EV Go.Proofs.Ytpcjpjjkaplebaa.D1 Go.Proofs.Ytpcjpjjkaplebaa.I1 Go.Proofs.Ytpcjpjjkaplebaa.N1 Go.Proofs.Ytpcjpjjkaplebaa.B1 Go.Proofs.Ytpcjpjjkaplebaa.B2 Go.Proofs.Ytpcjpjjkaplebaa.B3 Go.Proofs.Ytpcjpjjkaplebaa.B4
theorem drawNo_ok (b : List Int) (i h : Int) (hv : V b i) : ∃ x i' h', spec_l3DrawNo.f b i h = some (x, i', h') ∧ V b i' := by
  unfold spec_l3DrawNo.f
  obtain ⟨x, i1, g1, e1, v1⟩ := once_ok b i h 15 hv (by decide)
  rw [e1, Option.bind_some]
  cases x with
  | true =>
    obtain ⟨y, i2, g2, e2, _, v2⟩ := pick_ok b i1 g1 [0, (-1), 1000, 1001] v1 (by decide) (by decide)
    refine ⟨y, i2, g2, ?_, v2⟩
    dsimp only
    rw [if_pos rfl, e2]
    rfl
  | false =>
    obtain ⟨y, i2, g2, e2, _, _, _, v2⟩ := below_ok b i1 g1 9 v1 (by decide)
    refine ⟨wrap64 (1 + y), i2, g2, ?_, v2⟩
    dsimp only
    rw [if_neg (by decide), e2]
    rfl
theorem drawBals_e (b : List Int) (n : Int) (i : Int) (l : List SB) (c h : Int) (hin : ¬ i < n) (hl : l.length ≤ 160) (hv : V b c) : ∃ r c' h', (∀ k, spec_l4DrawBals.l0 (k + 1) l n i b c h = some (r, c', h')) ∧ r.length ≤ 161 ∧ V b c' := by
  obtain ⟨x, i1, g1, e1, _, _, _, v1⟩ := below_ok b c h 25 hv (by decide)
  by_cases h0 : x = 0
  · obtain ⟨y, i2, g2, e2, v2⟩ := drawNo_ok b i1 g1 v1
    obtain ⟨z, i3, g3, e3, v3⟩ := drawNo_ok b i2 g2 v2
    obtain ⟨u, i4, g4, e4, _, _, _, v4⟩ := below_ok b i3 g3 2 v3 (by decide)
    refine ⟨l ++ [⟨y, z, u⟩], i4, g4, fun k => ?_, by simp; omega, v4⟩
    simp only [spec_l4DrawBals.l0]
    rw [if_neg hin, e1, Option.bind_some, if_pos h0]
    simp only [e2, e3, e4, Option.bind_some]
    rw [if_pos (by omega)]
  · by_cases h1 : x = 1
    · by_cases h2 : (l.length : Int) > 0
      · obtain ⟨y, i2, g2, e2, _, v2⟩ := pick_ok b i1 g1 [1000000000000000, (-1000000000000000), 1000000000000001, 0] v1 (by decide) (by decide)
        refine ⟨l.set (0 : Int).toNat (⟨(rd_T58 l 0).f0, (rd_T58 l 0).f1, y⟩ : SB), i2, g2, fun k => ?_, by rw [List.length_set]; omega, v2⟩
        simp only [spec_l4DrawBals.l0]
        rw [if_neg hin, e1, Option.bind_some, if_neg h0, if_pos h1, if_pos h2, e2, Option.bind_some, if_pos (by omega)]
      · refine ⟨l, i1, g1, fun k => ?_, by omega, v1⟩
        simp only [spec_l4DrawBals.l0]
        rw [if_neg hin, e1, Option.bind_some, if_neg h0, if_pos h1, if_neg h2]
    · refine ⟨l, i1, g1, fun k => ?_, by omega, v1⟩
      simp only [spec_l4DrawBals.l0]
      rw [if_neg hin, e1, Option.bind_some, if_neg h0, if_neg h1]
theorem drawBals_l (b : List Int) (n : Int) (hn : n ≤ 300) : ∀ (d : Nat) (i : Int) (l : List SB) (c h : Int), (n - i).toNat = d → 0 ≤ i → l.length ≤ 160 → V b c → ∃ r c' h', Ev (fun k => spec_l4DrawBals.l0 k l n i b c h) (r, c', h') ∧ r.length ≤ 161 ∧ V b c' := by
  intro d
  induction d with
  | zero =>
    intro i l c h hd hi hl hv
    obtain ⟨r, c', h', hr, h2, h3⟩ := drawBals_e b n i l c h (by omega) hl hv
    exact ⟨r, c', h', Ev_one hr, h2, h3⟩
  | succ d ih =>
    intro i l c h hd hi hl hv
    have hw2 : wrap64 (i + 1) = i + 1 := w64_in _ (by omega) (by omega)
    have t1 : Int.tdiv n 4 = n / 4 := Int.tdiv_eq_ediv_of_nonneg (by omega)
    have t2 : Int.tdiv n 100 = n / 100 := Int.tdiv_eq_ediv_of_nonneg (by omega)
    have w1 : wrap64 (4 + (wrap64 (Int.tdiv n 4))) ≤ 4294967296 := by rw [t1, w64_in (n / 4) (by omega) (by omega), w64_in _ (by omega) (by omega)]; omega
    have w2 : wrap64 (3 + (wrap64 (Int.tdiv n 100))) ≤ 4294967296 := by rw [t2, w64_in (n / 100) (by omega) (by omega), w64_in _ (by omega) (by omega)]; omega
    obtain ⟨x, i1, g1, e1, _, _, _, v1⟩ := below_ok b c h _ hv w1
    obtain ⟨y, i2, g2, e2, _, _, _, v2⟩ := below_ok b i1 g1 _ v1 w2
    obtain ⟨z, i3, g3, e3, _, _, v3⟩ := drawAmount_ok b i2 g2 v2
    obtain ⟨o, ho⟩ : ∃ o, o = balPut l (wrap64 (1 + x)) (wrap64 (1 + y)) (Int.tmod z 1000000) := ⟨_, rfl⟩
    have hp : Ev (fun k => spec_BalPut.f k l (wrap64 (1 + x)) (wrap64 (1 + y)) (Int.tmod z 1000000)) o := by rw [ho]; exact balPut_s l _ _ _ (by omega)
    have hol : o.1.length ≤ 160 := by rw [ho]; exact balPut_len _ _ _ _
    have e : ∀ k, spec_l4DrawBals.l0 (k + 1) l n i b c h = (spec_BalPut.f k l (wrap64 (1 + x)) (wrap64 (1 + y)) (Int.tmod z 1000000)).bind fun t => if t.2 = true then spec_l4DrawBals.l0 k t.1 n (i + 1) b i3 g3 else spec_l4DrawBals.l0 k l n (i + 1) b i3 g3 := by
      intro k
      simp only [spec_l4DrawBals.l0]
      rw [if_pos (by omega), e1, Option.bind_some]
      simp only [e2, e3, Option.bind_some, hw2]
    cases ho2 : o.2 with
    | true =>
      obtain ⟨r, c', h', hr, hr2, hv2⟩ := ih (i + 1) o.1 i3 g3 (by omega) (by omega) hol v3
      exact ⟨r, c', h', Ev.step e (Ev_bind hp (Ev.congr (fun k => if_pos ho2) hr)), hr2, hv2⟩
    | false =>
      obtain ⟨r, c', h', hr, hr2, hv2⟩ := ih (i + 1) l i3 g3 (by omega) (by omega) hl v3
      exact ⟨r, c', h', Ev.step e (Ev_bind hp (Ev.congr (fun k => if_neg (by rw [ho2]; decide)) hr)), hr2, hv2⟩
theorem drawBals_ok (b : List Int) (i h : Int) (hv : V b i) : ∃ r c' h', Ev (fun k => spec_l4DrawBals.f k b i h) (r, c', h') ∧ r.length ≤ 161 ∧ V b c' := by
  unfold spec_l4DrawBals.f
  obtain ⟨x, i1, g1, e1, x0, x1, _, v1⟩ := below_ok b i h 12 hv (by decide)
  have x2 := x1 (by decide)
  obtain ⟨y, i2, g2, e2, v2⟩ := once_ok b i1 g1 20 v1 (by decide)
  cases y with
  | true =>
    obtain ⟨r, c', h', hr, hr2, hv2⟩ := drawBals_l b 300 (by decide) _ 0 [] i2 g2 rfl (by decide) (by decide) v2
    refine ⟨r, c', h', ?_, hr2, hv2⟩
    refine Ev.congr (fun k => ?_) (Ev.step (g := fun k => spec_l4DrawBals.j0 k [] 300 b i2 g2) (fun k => by simp only [spec_l4DrawBals.j0]) hr)
    rw [Option.bind_some, e1, Option.bind_some]
    simp only [e2, Option.bind_some]
    rw [if_pos trivial]
  | false =>
    obtain ⟨r, c', h', hr, hr2, hv2⟩ := drawBals_l b x (by omega) _ 0 [] i2 g2 rfl (by decide) (by decide) v2
    refine ⟨r, c', h', ?_, hr2, hv2⟩
    refine Ev.congr (fun k => ?_) (Ev.step (g := fun k => spec_l4DrawBals.j0 k [] x b i2 g2) (fun k => by simp only [spec_l4DrawBals.j0]) hr)
    rw [Option.bind_some, e1, Option.bind_some]
    simp only [e2, Option.bind_some]
    rw [if_neg (by decide)]
end Go.Proofs.Ytpcjpjjkaplebaa.D3
