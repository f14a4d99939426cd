/- What the law FnWays leans on, cut out of this repo's own texts by a program of this repo: plain functions, the walks that tie the Go calls to them, the law over lists and numbers, and the row. -/
import Derived.Test.YtomanpmffjkkgaaZFnWays5
import Derived.Shelf.SlSortCmp.WholeK
import Derived.Shelf.SlSortCmp.NoneTotal
import Derived.Shelf.SlicesQ.Reverse
import Derived.Ground.SlsfProg
import Derived.Ground.SlgnProg
import Derived.Test.YtomanpmffjkkgaaProg
namespace Go.Proofs
open Go.Shelf
def Try.sortLot_ren : Go.Shelf.Ren := ⟨fun | 6 => 88 | 15 => 100 | 14 => 99 | 28 => 114 | 29 => 115 | 20 => 106 | 21 => 107 | 22 => 108 | 23 => 109 | 24 => 110 | 25 => 111 | 26 => 112 | 27 => 113 | 46 => 119 | 47 => 120 | 48 => 121 | 49 => 122 | 50 => 123 | 57 => 127 | n => n, fun | 22 => 25 | 24 => 37 | 25 => 56 | 3 => 3 | 39 => 99 | 0 => 0 | 53 => 119 | 55 => 100 | 4 => 4 | 46 => 112 | 45 => 111 | 50 => 116 | 5 => 5 | 9 => 9 | 66 => 122 | 70 => 126 | 76 => 131 | 77 => 58 | n => n, fun | n => n⟩
theorem Try.sortLot : Go.Proofs.SlLaysF0.n6 Try.prog Try.sortLot_ren := {
  mixed := by kernel_rfl
  f6 := ⟨Try.f88.name, by decide, Try.func88.trans (congrArg some (by kernel_rfl))⟩
  f14 := ⟨Try.f99.name, by decide, Try.func99.trans (congrArg some (by kernel_rfl))⟩
  f15 := Try.func100.trans (congrArg some (by kernel_rfl))
  f20 := ⟨Try.f106.name, by decide, Try.func106.trans (congrArg some (by kernel_rfl))⟩
  f21 := ⟨Try.f107.name, by decide, Try.func107.trans (congrArg some (by kernel_rfl))⟩
  f22 := ⟨Try.f108.name, by decide, Try.func108.trans (congrArg some (by kernel_rfl))⟩
  f23 := ⟨Try.f109.name, by decide, Try.func109.trans (congrArg some (by kernel_rfl))⟩
  f24 := ⟨Try.f110.name, by decide, Try.func110.trans (congrArg some (by kernel_rfl))⟩
  f25 := ⟨Try.f111.name, by decide, Try.func111.trans (congrArg some (by kernel_rfl))⟩
  f26 := ⟨Try.f112.name, by decide, Try.func112.trans (congrArg some (by kernel_rfl))⟩
  f27 := ⟨Try.f113.name, by decide, Try.func113.trans (congrArg some (by kernel_rfl))⟩
  f28 := Try.func114.trans (congrArg some (by kernel_rfl))
  f29 := Try.func115.trans (congrArg some (by kernel_rfl))
  f46 := ⟨Try.f119.name, by decide, Try.func119.trans (congrArg some (by kernel_rfl))⟩
  f47 := Try.func120.trans (congrArg some (by kernel_rfl))
  f48 := Try.func121.trans (congrArg some (by kernel_rfl))
  f49 := ⟨Try.f122.name, by decide, Try.func122.trans (congrArg some (by kernel_rfl))⟩
  f50 := ⟨Try.f123.name, by decide, Try.func123.trans (congrArg some (by kernel_rfl))⟩
  f57 := ⟨Try.f127.name, by decide, Try.func127.trans (congrArg some (by kernel_rfl))⟩
  t0 := Try.underlying0
  a0 := Try.isAgg0
  z0 := Try.sizeOf0
  v0 := Try.zeroValue0
  t3 := Try.underlying3
  a3 := Try.isAgg3
  z3 := Try.sizeOf3
  v3 := Try.zeroValue3
  t4 := Try.underlying4
  a4 := Try.isAgg4
  z4 := Try.sizeOf4
  v4 := Try.zeroValue4
  t5 := Try.underlying5
  a5 := Try.isAgg5
  z5 := Try.sizeOf5
  v5 := Try.zeroValue5
  t9 := Try.underlying9
  a9 := Try.isAgg9
  z9 := Try.sizeOf9
  v9 := Try.zeroValue9
  t22 := Try.underlying25
  a22 := Try.isAgg25
  z22 := Try.sizeOf25
  v22 := Try.zeroValue25
  t25 := Try.underlying56
  a25 := Try.isAgg56
  z25 := Try.sizeOf56
  v25 := Try.zeroValue56
  t39 := Try.underlying99
  a39 := Try.isAgg99
  z39 := Try.sizeOf99
  v39 := Try.zeroValue99
  t45 := Try.underlying111
  a45 := Try.isAgg111
  z45 := Try.sizeOf111
  v45 := Try.zeroValue111
  t46 := Try.underlying112
  a46 := Try.isAgg112
  z46 := Try.sizeOf112
  v46 := Try.zeroValue112
  t50 := Try.underlying116
  a50 := Try.isAgg116
  z50 := Try.sizeOf116
  v50 := Try.zeroValue116
  t53 := Try.underlying119
  a53 := Try.isAgg119
  z53 := Try.sizeOf119
  v53 := Try.zeroValue119
  t55 := Try.underlying100
  a55 := Try.isAgg100
  z55 := Try.sizeOf100
  v55 := Try.zeroValue100
  t66 := Try.underlying122
  a66 := Try.isAgg122
  z66 := Try.sizeOf122
  v66 := Try.zeroValue122
  t70 := Try.underlying126
  a70 := Try.isAgg126
  z70 := Try.sizeOf126
  v70 := Try.zeroValue126
  t76 := Try.underlying131
  a76 := Try.isAgg131
  z76 := Try.sizeOf131
  v76 := Try.zeroValue131
  t77 := Try.underlying58
  a77 := Try.isAgg58
  z77 := Try.sizeOf58
  v77 := Try.zeroValue58 }
def Try.reverseLot_ren : Go.Shelf.Ren := ⟨fun | 35 => 67 | n => n, fun | 22 => 25 | 23 => 37 | 3 => 3 | 4 => 4 | 0 => 0 | n => n, fun | n => n⟩
theorem Try.reverseLot : Go.Proofs.SlLaysE0.n35 Try.prog Try.reverseLot_ren := {
  mixed := by kernel_rfl
  f35 := ⟨Try.f67.name, by decide, Try.func67.trans (congrArg some (by kernel_rfl))⟩
  t0 := Try.underlying0
  a0 := Try.isAgg0
  z0 := Try.sizeOf0
  v0 := Try.zeroValue0
  t3 := Try.underlying3
  a3 := Try.isAgg3
  z3 := Try.sizeOf3
  v3 := Try.zeroValue3
  t4 := Try.underlying4
  a4 := Try.isAgg4
  z4 := Try.sizeOf4
  v4 := Try.zeroValue4
  t22 := Try.underlying25
  a22 := Try.isAgg25
  z22 := Try.sizeOf25
  v22 := Try.zeroValue25 }
end Go.Proofs
namespace Go.Proofs.Ytomanpmffjkkgaa.P
open Go.RowKit Go.Proofs.YtomanpmffjkkgaaW.PrintWords Go.Proofs.YtomanpmffjkkgaaW.PrintLast Go.Proofs.YtomanpmffjkkgaaW.PrintMore
attribute [local go_sem] max2_int min2_int max_two min_two max_three min_three max_four min_four   -- for this text's walks alone
set_option linter.unusedVariables false
set_option linter.unusedSimpArgs false
def impl_MulDiv.j0 : Nat → Int → Int → Int → Bool → Option (Int × Int × Bool)
 | 0, _, _, _, _ => none
 | k + 1, x0, x1, x2, x25 => if x25 = true then (some (0, 0, false)) else ((bits_Mul64.f (IntKind.u64.wrap (x0)) (IntKind.u64.wrap (x1))).bind fun bt646 => (if bt646.1 ≥ (IntKind.u64.wrap (x2)) then (some (0, 0, false)) else ((bits_Div64.f k bt646.1 bt646.2 (IntKind.u64.wrap (x2))).bind fun bt648 => (if bt648.1 > 1000000000000000 then (some (0, 0, false)) else (some (wrap64 (bt648.1), wrap64 (bt648.2), true))))))
def impl_MulDiv.f (k : Nat) (a0 : Int) (a1 : Int) (a2 : Int) : Option (Int × Int × Bool) := (impl_in.f a0 0 1000000000000000).bind fun t643 => (if t643 = true then ((impl_in.f a1 0 1000000000000000).bind fun t644 => (if t644 = true then ((impl_in.f a2 1 1000000000000000).bind fun t645 => (impl_MulDiv.j0 k a0 a1 a2 (!t645))) else (impl_MulDiv.j0 k a0 a1 a2 true))) else (impl_MulDiv.j0 k a0 a1 a2 true))
set_option maxHeartbeats 8000000 in
set_option maxRecDepth 100000 in
theorem impl_MulDiv.calls (k : Nat) (a0 : Int) (a1 : Int) (a2 : Int) (r1 : Int) (r2 : Int) (r3 : Bool) (w : World) (h : impl_MulDiv.f k a0 a1 a2 = some (r1, r2, r3)) :
 Calls Try.prog 86 #[.int .i64 a0, .int .i64 a1, .int .i64 a2] w fun e w' => e = .returned (.tuple #[.int .i64 r1, .int .i64 r2, .bool r3]) ∧ Drawn0 w w' := by
 have H : ((impl_in.f a0 0 1000000000000000).bind fun t643 => (if t643 = true then ((impl_in.f a1 0 1000000000000000).bind fun t644 => (if t644 = true then ((impl_in.f a2 1 1000000000000000).bind fun t645 => (impl_MulDiv.j0 k a0 a1 a2 (!t645))) else (impl_MulDiv.j0 k a0 a1 a2 true))) else (impl_MulDiv.j0 k a0 a1 a2 true))) = some (r1, r2, r3) := h
 clear h
 have HC4 := Aside0.mk H
 clear H
 go_enter Try.func86, Try.ntmps86
 go_upto_region 1 with (fail)
 go_cut [25] (fun v25 wc => ∃ (kq : Nat) (x25_3 : Bool), v25 = .bool x25_3 ∧ Aside0 (impl_MulDiv.j0 kq a0 a1 a2 x25_3 = some (r1, r2, r3)) ∧ Aside0 (kq ≤ k) ∧ Drawn0 w wc)
 case first =>
  have H := HC4.out
  clear HC4
  replace H := Option.bind_eq_some_iff.mp H
  obtain ⟨t643, A50, H⟩ := H
  replace H : (if t643 = true then ((impl_in.f a1 0 1000000000000000).bind fun t644 => (if t644 = true then ((impl_in.f a2 1 1000000000000000).bind fun t645 => (impl_MulDiv.j0 k a0 a1 a2 (!t645))) else (impl_MulDiv.j0 k a0 a1 a2 true))) else (impl_MulDiv.j0 k a0 a1 a2 true)) = some (r1, r2, r3) := H
  have A5 := Aside0.mk A50
  clear A50
  by_cases c6 : t643 = true
  ·
   subst c6
   have H1 : ((impl_in.f a1 0 1000000000000000).bind fun t644 => (if t644 = true then ((impl_in.f a2 1 1000000000000000).bind fun t645 => (impl_MulDiv.j0 k a0 a1 a2 (!t645))) else (impl_MulDiv.j0 k a0 a1 a2 true))) = some (r1, r2, r3) := by rw [if_pos rfl] at H; exact H
   clear H
   have H := H1
   clear H1
   replace H := Option.bind_eq_some_iff.mp H
   obtain ⟨t644, A70, H⟩ := H
   replace H : (if t644 = true then ((impl_in.f a2 1 1000000000000000).bind fun t645 => (impl_MulDiv.j0 k a0 a1 a2 (!t645))) else (impl_MulDiv.j0 k a0 a1 a2 true)) = some (r1, r2, r3) := H
   have A7 := Aside0.mk A70
   clear A70
   by_cases c8 : t644 = true
   ·
    subst c8
    have H1 : ((impl_in.f a2 1 1000000000000000).bind fun t645 => (impl_MulDiv.j0 k a0 a1 a2 (!t645))) = some (r1, r2, r3) := by rw [if_pos rfl] at H; exact H
    clear H
    have H := H1
    clear H1
    replace H := Option.bind_eq_some_iff.mp H
    obtain ⟨t645, A90, H⟩ := H
    replace H : (impl_MulDiv.j0 k a0 a1 a2 (!t645)) = some (r1, r2, r3) := H
    have A9 := Aside0.mk A90
    clear A90
    have H' := Aside0.mk H
    clear H
    go_wp2_with (first | ((with_reducible refine gate_callee (f := 65) rfl ?_); refine goesL_ (some 14) rfl rfl Try.func65 kr_ rfl #[.int .i64 a0, .int .i64 0, .int .i64 1000000000000000] rfl (bc_) ?_; (with_reducible refine (impl_in.calls a0 0 1000000000000000 true _ A5.out).mono ?_); rintro e w' ⟨rfl, ⟨nd, rfl⟩⟩; refine ⟨_, rfl, ?_⟩) | (go_at_call 65; (with_reducible refine (impl_in.calls a1 0 1000000000000000 true _ A7.out).mono ?_); rintro e w' ⟨rfl, ⟨nd, rfl⟩⟩) | (go_at_call 65; (with_reducible refine (impl_in.calls a2 1 1000000000000000 t645 _ A9.out).mono ?_); rintro e w' ⟨rfl, ⟨nd, rfl⟩⟩))
    go_meet
    case rel => exact ⟨_, (!t645), (by first | rfl | (simp; done) | (simp [*]; done)), H', ⟨by first | omega | exact Nat.le_refl _⟩, by repeat (first | exact Drawn0.refl _ | apply Drawn0.step)⟩
   ·
    replace c8 := Bool.eq_false_iff.mpr c8
    subst c8
    have H1 : (impl_MulDiv.j0 k a0 a1 a2 true) = some (r1, r2, r3) := by rw [if_neg (show ¬ (false = true) by decide)] at H; exact H
    clear H
    have H := H1
    clear H1
    have H' := Aside0.mk H
    clear H
    go_wp2_with (first | ((with_reducible refine gate_callee (f := 65) rfl ?_); refine goesL_ (some 14) rfl rfl Try.func65 kr_ rfl #[.int .i64 a0, .int .i64 0, .int .i64 1000000000000000] rfl (bc_) ?_; (with_reducible refine (impl_in.calls a0 0 1000000000000000 true _ A5.out).mono ?_); rintro e w' ⟨rfl, ⟨nd, rfl⟩⟩; refine ⟨_, rfl, ?_⟩) | (go_at_call 65; (with_reducible refine (impl_in.calls a1 0 1000000000000000 false _ A7.out).mono ?_); rintro e w' ⟨rfl, ⟨nd, rfl⟩⟩))
    go_meet
    case rel => exact ⟨_, (true), (by first | rfl | (simp; done) | (simp [*]; done)), H', ⟨by first | omega | exact Nat.le_refl _⟩, by repeat (first | exact Drawn0.refl _ | apply Drawn0.step)⟩
  ·
   replace c6 := Bool.eq_false_iff.mpr c6
   subst c6
   have H1 : (impl_MulDiv.j0 k a0 a1 a2 true) = some (r1, r2, r3) := by rw [if_neg (show ¬ (false = true) by decide)] at H; exact H
   clear H
   have H := H1
   clear H1
   have H' := Aside0.mk H
   clear H
   go_wp2_with (first | ((with_reducible refine gate_callee (f := 65) rfl ?_); refine goesL_ (some 14) rfl rfl Try.func65 kr_ rfl #[.int .i64 a0, .int .i64 0, .int .i64 1000000000000000] rfl (bc_) ?_; (with_reducible refine (impl_in.calls a0 0 1000000000000000 false _ A5.out).mono ?_); rintro e w' ⟨rfl, ⟨nd, rfl⟩⟩; refine ⟨_, rfl, ?_⟩))
   go_meet
   case rel => exact ⟨_, (true), (by first | rfl | (simp; done) | (simp [*]; done)), H', ⟨by first | omega | exact Nat.le_refl _⟩, by repeat (first | exact Drawn0.refl _ | apply Drawn0.step)⟩
 case rest =>
  clear HC4
  try clear p2
  try clear c6
  try clear c8
  obtain ⟨kq, x25_3, rfl, HA, HJ3, ⟨mc3, rfl⟩⟩ := hcut
  cases kq with
  | zero => exact absurd HA.out (by simp [impl_MulDiv.j0])
  | succ kj3 =>
   have H := HA.out
   clear HA
   simp only [impl_MulDiv.j0] at H
   by_cases c10 : x25_3 = true
   ·
    subst c10
    have H1 : (some (0, 0, false)) = some (r1, r2, r3) := by rw [if_pos rfl] at H; exact H
    clear H
    have H := H1
    clear H1
    simp only [Option.some.injEq, Prod.mk.injEq] at H
    obtain ⟨rfl, rfl, rfl⟩ := H
    go_wp2
    go_ret3
    exact ⟨by first | rfl | (simp; done) | (simp [*]; done), by repeat (first | exact Drawn0.refl _ | apply Drawn0.step)⟩
   ·
    replace c10 := Bool.eq_false_iff.mpr c10
    subst c10
    have H1 : ((bits_Mul64.f (IntKind.u64.wrap (a0)) (IntKind.u64.wrap (a1))).bind fun bt646 => (if bt646.1 ≥ (IntKind.u64.wrap (a2)) then (some (0, 0, false)) else ((bits_Div64.f kj3 bt646.1 bt646.2 (IntKind.u64.wrap (a2))).bind fun bt648 => (if bt648.1 > 1000000000000000 then (some (0, 0, false)) else (some (wrap64 (bt648.1), wrap64 (bt648.2), true)))))) = some (r1, r2, r3) := by rw [if_neg (show ¬ (false = true) by decide)] at H; exact H
    clear H
    have H := H1
    clear H1
    replace H := Option.bind_eq_some_iff.mp H
    obtain ⟨⟨t646, t647⟩, A110, H⟩ := H
    replace H : (if t646 ≥ (IntKind.u64.wrap (a2)) then (some (0, 0, false)) else ((bits_Div64.f kj3 t646 t647 (IntKind.u64.wrap (a2))).bind fun bt648 => (if bt648.1 > 1000000000000000 then (some (0, 0, false)) else (some (wrap64 (bt648.1), wrap64 (bt648.2), true))))) = some (r1, r2, r3) := H
    have A11 := Aside0.mk A110
    clear A110
    by_cases c12 : t646 ≥ (IntKind.u64.wrap (a2))
    ·
     rw [if_pos c12] at H
     have c12b0 : decide ((IntKind.u64.wrap (a2)) ≤ t646) = true := decide_eq_true c12
     clear c12
     simp only [Option.some.injEq, Prod.mk.injEq] at H
     obtain ⟨rfl, rfl, rfl⟩ := H
     go_wp2_with (first | ((with_reducible refine gate_callee (f := 97) rfl ?_); refine goesL_ (some 31) rfl rfl Try.func97 kr_ rfl #[.int .u64 (IntKind.u64.wrap (a0)), .int .u64 (IntKind.u64.wrap (a1))] rfl (bc_) ?_; (with_reducible refine (bits_Mul64.calls (IntKind.u64.wrap (a0)) (IntKind.u64.wrap (a1)) t646 t647 _ A11.out).mono ?_); rintro e w' ⟨rfl, ⟨nd, rfl⟩⟩; refine ⟨_, rfl, ?_⟩))
     go_ret3
     exact ⟨by first | rfl | (simp; done) | (simp [*]; done), by repeat (first | exact Drawn0.refl _ | apply Drawn0.step)⟩
    ·
     rw [if_neg c12] at H
     have c12b0 : decide ((IntKind.u64.wrap (a2)) ≤ t646) = false := decide_eq_false c12
     clear c12
     replace H := Option.bind_eq_some_iff.mp H
     obtain ⟨⟨t648, t649⟩, A130, H⟩ := H
     replace H : (if t648 > 1000000000000000 then (some (0, 0, false)) else (some (wrap64 (t648), wrap64 (t649), true))) = some (r1, r2, r3) := H
     have A13 := Aside0.mk A130
     clear A130
     by_cases c14 : t648 > 1000000000000000
     ·
      rw [if_pos c14] at H
      have c14b0 : decide (1000000000000000 < t648) = true := decide_eq_true c14
      clear c14
      simp only [Option.some.injEq, Prod.mk.injEq] at H
      obtain ⟨rfl, rfl, rfl⟩ := H
      go_wp2_with (first | ((with_reducible refine gate_callee (f := 97) rfl ?_); refine goesL_ (some 31) rfl rfl Try.func97 kr_ rfl #[.int .u64 (IntKind.u64.wrap (a0)), .int .u64 (IntKind.u64.wrap (a1))] rfl (bc_) ?_; (with_reducible refine (bits_Mul64.calls (IntKind.u64.wrap (a0)) (IntKind.u64.wrap (a1)) t646 t647 _ A11.out).mono ?_); rintro e w' ⟨rfl, ⟨nd, rfl⟩⟩; refine ⟨_, rfl, ?_⟩) | ((with_reducible refine gate_callee (f := 98) rfl ?_); refine goesL_ (some 43) rfl rfl Try.func98 kr_ rfl #[.int .u64 t646, .int .u64 t647, .int .u64 (IntKind.u64.wrap (a2))] rfl (bc_) ?_; (with_reducible refine (bits_Div64.calls kj3 t646 t647 (IntKind.u64.wrap (a2)) t648 t649 _ A13.out).mono ?_); rintro e w' ⟨rfl, ⟨nd, rfl⟩⟩; refine ⟨_, rfl, ?_⟩))
      go_ret3
      exact ⟨by first | rfl | (simp; done) | (simp [*]; done), by repeat (first | exact Drawn0.refl _ | apply Drawn0.step)⟩
     ·
      rw [if_neg c14] at H
      have c14b0 : decide (1000000000000000 < t648) = false := decide_eq_false c14
      clear c14
      simp only [Option.some.injEq, Prod.mk.injEq] at H
      obtain ⟨rfl, rfl, rfl⟩ := H
      go_wp2_with (first | ((with_reducible refine gate_callee (f := 97) rfl ?_); refine goesL_ (some 31) rfl rfl Try.func97 kr_ rfl #[.int .u64 (IntKind.u64.wrap (a0)), .int .u64 (IntKind.u64.wrap (a1))] rfl (bc_) ?_; (with_reducible refine (bits_Mul64.calls (IntKind.u64.wrap (a0)) (IntKind.u64.wrap (a1)) t646 t647 _ A11.out).mono ?_); rintro e w' ⟨rfl, ⟨nd, rfl⟩⟩; refine ⟨_, rfl, ?_⟩) | ((with_reducible refine gate_callee (f := 98) rfl ?_); refine goesL_ (some 43) rfl rfl Try.func98 kr_ rfl #[.int .u64 t646, .int .u64 t647, .int .u64 (IntKind.u64.wrap (a2))] rfl (bc_) ?_; (with_reducible refine (bits_Div64.calls kj3 t646 t647 (IntKind.u64.wrap (a2)) t648 t649 _ A13.out).mono ?_); rintro e w' ⟨rfl, ⟨nd, rfl⟩⟩; refine ⟨_, rfl, ?_⟩))
      go_ret3
      exact ⟨by first | rfl | (simp; done) | (simp [*]; done), by repeat (first | exact Drawn0.refl _ | apply Drawn0.step)⟩
def impl_takeLots.l0 : Nat → Int → Int → List (S37) → List (S37) → Int → Int → Option ((List (S37)) × Int)
 | 0, _, _, _, _, _, _ => none
 | k + 1, x1, x6, x7, x15, x16, x17 => if x17 < x16 then (if 0 ≤ x17 then (if x17 < (x15.length : Int) then ((impl_MulDiv.f k ((rd_T37 x15 x17).f4) (mn x1 ((rd_T37 x15 x17).f3)) ((rd_T37 x15 x17).f3)).bind fun bt655 => (if (mn x1 ((rd_T37 x15 x17).f3)) < ((rd_T37 x15 x17).f3) then (if x7.length < 3518437208883 then (impl_takeLots.l0 k (wrap64 (x1 - (mn x1 ((rd_T37 x15 x17).f3)))) (wrap64 (x6 + bt655.1)) (x7 ++ [(⟨(rd_T37 x15 x17).f0, (rd_T37 x15 x17).f1, (rd_T37 x15 x17).f2, wrap64 (((rd_T37 x15 x17).f3) - (mn x1 ((rd_T37 x15 x17).f3))), wrap64 (((rd_T37 x15 x17).f4) - bt655.1)⟩ : S37)]) x15 x16 (wrap64 (x17 + 1))) else (none)) else (impl_takeLots.l0 k (wrap64 (x1 - (mn x1 ((rd_T37 x15 x17).f3)))) (wrap64 (x6 + bt655.1)) x7 x15 x16 (wrap64 (x17 + 1))))) else (none)) else (none)) else (some (x7, x6))
def impl_takeLots.f (k : Nat) (l0 : List (S37)) (a1 : Int) : Option ((List (S37)) × Int) := impl_takeLots.l0 k a1 0 (([] : List (S37))) l0 (l0.length : Int) 0
set_option maxHeartbeats 8000000 in
set_option maxRecDepth 100000 in
theorem impl_takeLots.calls (k : Nat) (A0 : Option Addr) (c0 : Nat) (l0 : List (S37)) (a1 : Int) (r1 : List (S37)) (r2 : Int) (w : World) (hr0 : Kd.C k37 w A0 l0.length l0) (hc0 : l0.length ≤ c0) (h : impl_takeLots.f k l0 a1 = some (r1, r2)) :
 Calls Try.prog 66 #[.slice A0 l0.length c0, .int .i64 a1] w fun e w' => ∃ v0_ : Value, e = .returned (.tuple #[v0_, .int .i64 r2]) ∧ Kd.R k37 37 w' w.heap.size (fun _ => True) v0_ r1 ∧ Below w.heap.size w w' := by
 have hu37 := Try.underlying37
 have HR0 := Aside0.mk hr0
 have HC0 := Aside0.mk hc0
 clear hr0 hc0
 have HB := Aside0.mk (Below.refl w.heap.size w)
 have H : (impl_takeLots.l0 k a1 0 (([] : List (S37))) l0 (l0.length : Int) 0) = some (r1, r2) := h
 clear h
 obtain ⟨y650, hy650⟩ : ∃ y_ : List (S37), y_ = (([] : List (S37))) := ⟨_, rfl⟩
 replace H : (impl_takeLots.l0 k a1 0 y650 l0 (l0.length : Int) 0) = some (r1, r2) := by first | (rw [hy650]; with_reducible exact H) | (have H2_ := (Option.bind_some _ _).symm.trans H; rw [hy650]; with_reducible exact H2_) | (have H2_ := (Option.bind_some _ _).symm.trans H; with_reducible exact H2_) | with_reducible exact H | (rw [hy650]; exact H) | exact H
 have Ny650 := Aside0.mk hy650
 clear hy650
 have H' := Aside0.mk H
 clear H
 go_enter Try.func66, Try.ntmps66
 go_wp2_with (first | ((with_reducible refine gate_dst (N := 14) rfl ?_); refine Kd.R_lit k37 _ 37 ?hg (N := 14) ?hd (xs := ([] : List (S37))) (inner := []) (ok := fun _ => True) (okp := fun _ => True) ?hr ?hp (fun _ hk => hk) trivial (Below.refl _ _) (Nat.le_refl _) (by simp) ?_; (case hd => rfl); (case hg => rfl); (case hr => first | (go_simp; done) | (go_simp; rfl)); (case hp => exact (Reps.none _ _)); intro v651 w3 ho4 hb hg_ hnew_; clear hg_ hnew_; (first | rw [← Ny650.out] at ho4 | (simp only [Int.reduceToNat] at ho4; rw [← Ny650.out] at ho4)); have n0_ := Aside0.mk (Kd.R_lower ho4 (below_size (bb_))); have n1_ := Aside0.mk (below_step (bb_) hb); clear HB; have HO652 := n0_; have HB := n1_; clear n0_ n1_; clear hb ho4))
 go_loopg [1, 6, 7, 17] k (fun kq v1 v6 v7 v17 w' => ∃ (x1_1 : Int) (x6_1 : Int) (x7_1 : List (S37)) (x17_1 : Int), v1 = .int .i64 x1_1 ∧ v6 = .int .i64 x6_1 ∧ v17 = .int .i64 x17_1 ∧ Aside0 (impl_takeLots.l0 kq x1_1 x6_1 x7_1 l0 (l0.length : Int) x17_1 = some (r1, r2)) ∧ Aside0 (kq ≤ k) ∧ Aside0 (Kd.R k37 37 w' w.heap.size (fun _ => True) v7 x7_1) ∧ Aside0 (Below w.heap.size w w'))
 case atStart => exact ⟨(a1), (0), (y650), (0), (by first | rfl | (simp; done) | (simp [*]; done)), (by first | rfl | (simp; done) | (simp [*]; done)), (by first | rfl | (simp; done) | (simp [*]; done)), H', ⟨Nat.le_refl _⟩, ⟨by (with_reducible repeat (first | apply Kd.R_alloc | apply Kd.R_drewN | apply Kd.R_drew)); exact HO652.out⟩, ⟨bb_⟩⟩
 case round =>
  clear H'
  try clear p2
  obtain ⟨x1_1, x6_1, x7_1, x17_1, rfl, rfl, rfl, HA, HK1, HO_7, HB⟩ := hrel
  cases gk with
  | zero => exact absurd HA.out (by simp [impl_takeLots.l0])
  | succ k1 =>
   have H := HA.out
   clear HA
   simp only [impl_takeLots.l0] at H
   by_cases c5 : x17_1 < (l0.length : Int)
   ·
    rw [if_pos c5] at H
    have c5b0 : decide (x17_1 < (l0.length : Int)) = true := decide_eq_true c5
    clear c5
    by_cases c6 : 0 ≤ x17_1
    ·
     rw [if_pos c6] at H
     have c6b0 : decide (0 ≤ x17_1) = true := decide_eq_true c6
     clear c6
     by_cases c7 : x17_1 < (l0.length : Int)
     ·
      rw [if_pos c7] at H
      have c7b0 : decide (x17_1 < (l0.length : Int)) = true := decide_eq_true c7
      clear c7
      obtain ⟨ji8, hji8⟩ : ∃ j_ : Int, (mn x1_1 ((rd_T37 l0 x17_1).f3)) = j_ := ⟨_, rfl⟩
      replace H : ((impl_MulDiv.f k1 ((rd_T37 l0 x17_1).f4) (ji8) ((rd_T37 l0 x17_1).f3)).bind fun bt655 => (if (ji8) < ((rd_T37 l0 x17_1).f3) then (if x7_1.length < 3518437208883 then (impl_takeLots.l0 k1 (wrap64 (x1_1 - (ji8))) (wrap64 (x6_1 + bt655.1)) (x7_1 ++ [(⟨(rd_T37 l0 x17_1).f0, (rd_T37 l0 x17_1).f1, (rd_T37 l0 x17_1).f2, wrap64 (((rd_T37 l0 x17_1).f3) - (ji8)), wrap64 (((rd_T37 l0 x17_1).f4) - bt655.1)⟩ : S37)]) l0 (l0.length : Int) (wrap64 (x17_1 + 1))) else (none)) else (impl_takeLots.l0 k1 (wrap64 (x1_1 - (ji8))) (wrap64 (x6_1 + bt655.1)) x7_1 l0 (l0.length : Int) (wrap64 (x17_1 + 1))))) = some (r1, r2) := by first | (rw [hji8] at H; exact H) | (simp only [hji8] at H ⊢; exact H)
      have hji8_ : (if ((rd_T37 l0 x17_1).f3) < x1_1 then ((rd_T37 l0 x17_1).f3) else x1_1) = ji8 := hji8
      replace H := Option.bind_eq_some_iff.mp H
      obtain ⟨⟨t655, t656, t657⟩, A90, H⟩ := H
      replace H : (if (ji8) < ((rd_T37 l0 x17_1).f3) then (if x7_1.length < 3518437208883 then (impl_takeLots.l0 k1 (wrap64 (x1_1 - (ji8))) (wrap64 (x6_1 + t655)) (x7_1 ++ [(⟨(rd_T37 l0 x17_1).f0, (rd_T37 l0 x17_1).f1, (rd_T37 l0 x17_1).f2, wrap64 (((rd_T37 l0 x17_1).f3) - (ji8)), wrap64 (((rd_T37 l0 x17_1).f4) - t655)⟩ : S37)]) l0 (l0.length : Int) (wrap64 (x17_1 + 1))) else (none)) else (impl_takeLots.l0 k1 (wrap64 (x1_1 - (ji8))) (wrap64 (x6_1 + t655)) x7_1 l0 (l0.length : Int) (wrap64 (x17_1 + 1)))) = some (r1, r2) := H
      have A9 := Aside0.mk A90
      clear A90
      by_cases c10 : (ji8) < ((rd_T37 l0 x17_1).f3)
      ·
       rw [if_pos c10] at H
       have c10b0 : decide ((ji8) < ((rd_T37 l0 x17_1).f3)) = true := decide_eq_true c10
       clear c10
       by_cases c11 : x7_1.length < 3518437208883
       ·
        rw [if_pos c11] at H
        have LMc11 := Aside0.mk c11
        clear c11
        obtain ⟨y658, hy658⟩ : ∃ y_ : List (S37), y_ = (x7_1 ++ [(⟨(rd_T37 l0 x17_1).f0, (rd_T37 l0 x17_1).f1, (rd_T37 l0 x17_1).f2, wrap64 (((rd_T37 l0 x17_1).f3) - (ji8)), wrap64 (((rd_T37 l0 x17_1).f4) - t655)⟩ : S37)]) := ⟨_, rfl⟩
        replace H : (impl_takeLots.l0 k1 (wrap64 (x1_1 - (ji8))) (wrap64 (x6_1 + t655)) y658 l0 (l0.length : Int) (wrap64 (x17_1 + 1))) = some (r1, r2) := by first | (rw [hy658]; with_reducible exact H) | (have H2_ := (Option.bind_some _ _).symm.trans H; rw [hy658]; with_reducible exact H2_) | (have H2_ := (Option.bind_some _ _).symm.trans H; with_reducible exact H2_) | with_reducible exact H | (rw [hy658]; exact H) | exact H
        have Ny658 := Aside0.mk hy658
        clear hy658
        have H' := Aside0.mk H
        clear H
        have p653 : 0 ≤ (x17_1 : Int) := od_
        have q653 : x17_1 < (l0.length : Int) := od_
        obtain ⟨ad653, e653, hx653_0, hx653_1, hx653_2, hx653_3, hx653_4⟩ := at_T37 HR0.out x17_1 p653 q653
        cases e653
        replace hx653_0 := (HB.out.cell (World.block_lt_of_cell? w _ hx653_0)).trans hx653_0
        replace hx653_1 := (HB.out.cell (World.block_lt_of_cell? w _ hx653_1)).trans hx653_1
        replace hx653_2 := (HB.out.cell (World.block_lt_of_cell? w _ hx653_2)).trans hx653_2
        replace hx653_3 := (HB.out.cell (World.block_lt_of_cell? w _ hx653_3)).trans hx653_3
        replace hx653_4 := (HB.out.cell (World.block_lt_of_cell? w _ hx653_4)).trans hx653_4
        replace p653 := eq_true p653
        replace q653 := eq_true q653
        go_wp2_with (first | ((with_reducible refine gate_dst (N := 9) rfl ?_); refine box_event ?hg (N := 9) ?hd (cs := #[.int .i64 0, .int .i64 0, .int .i64 0, .int .i64 0, .int .i64 0]) (t := 37) ?hr ?_; (case hd => rfl); (case hg => rfl); (case hr => first | (go_simp; done) | (go_simp; rfl)); intro gb654 hg w12 hbox hb; have n0_ := Aside0.mk (Kd.R_below (Kd.R_elderB (pe_ HO_7.out) gb654 (Nat.le_of_eq hg.symm)) hb); have n1_ := Aside0.mk (below_step (bb_) hb); have n2_ := Aside0.mk (hbox); have n3_ := Aside0.mk ((by rw [hg]; exact (below_size (bb_)) : w.heap.size ≤ gb654)); have n4_ := Aside0.mk ((by rw [hg]; exact (below_size (bb_)) : w.heap.size ≤ gb654)); clear HO_7; clear HB; have HO_7 := n0_; have HB := n1_; have BK654 := n2_; have GW654 := n3_; have GE654 := n4_; clear n0_ n1_ n2_ n3_ n4_; clear hb hbox hg; have hcz13_0 : w12.cell? ⟨gb654, 0, none⟩ = some (.int .i64 0) := (blk_cell BK654.out 0).trans rfl; have hcz13_1 : w12.cell? ⟨gb654, 1, none⟩ = some (.int .i64 0) := (blk_cell BK654.out 1).trans rfl; have hcz13_2 : w12.cell? ⟨gb654, 2, none⟩ = some (.int .i64 0) := (blk_cell BK654.out 2).trans rfl; have hcz13_3 : w12.cell? ⟨gb654, 3, none⟩ = some (.int .i64 0) := (blk_cell BK654.out 3).trans rfl; have hcz13_4 : w12.cell? ⟨gb654, 4, none⟩ = some (.int .i64 0) := (blk_cell BK654.out 4).trans rfl; have hfz13_0 := blk_frozen BK654.out 0; have hfz13_1 := blk_frozen BK654.out 1; have hfz13_2 := blk_frozen BK654.out 2; have hfz13_3 := blk_frozen BK654.out 3; have hfz13_4 := blk_frozen BK654.out 4) | ((with_reducible refine gate_store (t := 37) (p := 9) rfl ?_); refine store_event (t := 37) (p := 9) (v := ?vo_w14) (w1 := (((((w12.setCell ⟨gb654, 0, none⟩ (.int .i64 ((rd_T37 l0 x17_1).f0))).setCell ⟨gb654, 1, none⟩ (.int .i64 ((rd_T37 l0 x17_1).f1))).setCell ⟨gb654, 2, none⟩ (.int .i64 ((rd_T37 l0 x17_1).f2))).setCell ⟨gb654, 3, none⟩ (.int .i64 ((rd_T37 l0 x17_1).f3))).setCell ⟨gb654, 4, none⟩ (.int .i64 ((rd_T37 l0 x17_1).f4)))) ?hg ?ho ?hn ?hr ?_; (case ho => rfl); (case hg => rfl); (case hn => rfl); (case hr => first | (go_simp; done) | (go_simp; rfl)); intro w14 hw; have n0_ : Aside0 (Kd.R k37 37 w14 w.heap.size (fun k_ => k_ ≠ gb654) u7 x7_1) := ⟨(by rw [hw]; exact (by (with_reducible repeat (first | apply Kd.R_alloc | apply Kd.R_drewN | apply Kd.R_drew)); exact Kd.R_mono (Kd.R_far (p := ⟨gb654, 4, none⟩) (Kd.R_far (p := ⟨gb654, 3, none⟩) (Kd.R_far (p := ⟨gb654, 2, none⟩) (Kd.R_far (p := ⟨gb654, 1, none⟩) (Kd.R_far (p := ⟨gb654, 0, none⟩) (Kd.R_mono HO_7.out (fun k_ hk => (⟨hk, hk.2⟩ : _ ∧ k_ ≠ gb654))) (fun _ hk => hk.2) (.int .i64 ((rd_T37 l0 x17_1).f0))) (fun _ hk => hk.2) (.int .i64 ((rd_T37 l0 x17_1).f1))) (fun _ hk => hk.2) (.int .i64 ((rd_T37 l0 x17_1).f2))) (fun _ hk => hk.2) (.int .i64 ((rd_T37 l0 x17_1).f3))) (fun _ hk => hk.2) (.int .i64 ((rd_T37 l0 x17_1).f4))) (fun _ hk => hk.1.2)))⟩; have n1_ : Aside0 (w14.heap[gb654]? = some (.cells #[.int .i64 ((rd_T37 l0 x17_1).f0), .int .i64 ((rd_T37 l0 x17_1).f1), .int .i64 ((rd_T37 l0 x17_1).f2), .int .i64 ((rd_T37 l0 x17_1).f3), .int .i64 ((rd_T37 l0 x17_1).f4)] 37 (0, 0))) := ⟨(by rw [hw]; exact (by (with_reducible repeat (first | refine blk_drewN ?_ _ | refine blk_drew ?_ | refine blk_alloc ?_ _)); refine blk_put (cs := #[.int .i64 ((rd_T37 l0 x17_1).f0), .int .i64 ((rd_T37 l0 x17_1).f1), .int .i64 ((rd_T37 l0 x17_1).f2), .int .i64 ((rd_T37 l0 x17_1).f3), .int .i64 0]) ?_ 4 _ rfl; (with_reducible repeat (first | refine blk_drewN ?_ _ | refine blk_drew ?_ | refine blk_alloc ?_ _)); refine blk_put (cs := #[.int .i64 ((rd_T37 l0 x17_1).f0), .int .i64 ((rd_T37 l0 x17_1).f1), .int .i64 ((rd_T37 l0 x17_1).f2), .int .i64 0, .int .i64 0]) ?_ 3 _ rfl; (with_reducible repeat (first | refine blk_drewN ?_ _ | refine blk_drew ?_ | refine blk_alloc ?_ _)); refine blk_put (cs := #[.int .i64 ((rd_T37 l0 x17_1).f0), .int .i64 ((rd_T37 l0 x17_1).f1), .int .i64 0, .int .i64 0, .int .i64 0]) ?_ 2 _ rfl; (with_reducible repeat (first | refine blk_drewN ?_ _ | refine blk_drew ?_ | refine blk_alloc ?_ _)); refine blk_put (cs := #[.int .i64 ((rd_T37 l0 x17_1).f0), .int .i64 0, .int .i64 0, .int .i64 0, .int .i64 0]) ?_ 1 _ rfl; (with_reducible repeat (first | refine blk_drewN ?_ _ | refine blk_drew ?_ | refine blk_alloc ?_ _)); refine blk_put (cs := #[.int .i64 0, .int .i64 0, .int .i64 0, .int .i64 0, .int .i64 0]) ?_ 0 _ rfl; (with_reducible repeat (first | refine blk_drewN ?_ _ | refine blk_drew ?_ | refine blk_alloc ?_ _)); exact BK654.out))⟩; have n2_ : Aside0 (Below w.heap.size w w14) := ⟨(by rw [hw]; exact (bg_ GE654.out))⟩; clear hw; clear HO_7; clear BK654; clear HB; have HO_7 := n0_; have BK654 := n1_; have HB := n2_; clear n0_ n1_ n2_; have hcz15_0 : w14.cell? ⟨gb654, 0, none⟩ = some (.int .i64 ((rd_T37 l0 x17_1).f0)) := (blk_cell BK654.out 0).trans rfl; have hcz15_1 : w14.cell? ⟨gb654, 1, none⟩ = some (.int .i64 ((rd_T37 l0 x17_1).f1)) := (blk_cell BK654.out 1).trans rfl; have hcz15_2 : w14.cell? ⟨gb654, 2, none⟩ = some (.int .i64 ((rd_T37 l0 x17_1).f2)) := (blk_cell BK654.out 2).trans rfl; have hcz15_3 : w14.cell? ⟨gb654, 3, none⟩ = some (.int .i64 ((rd_T37 l0 x17_1).f3)) := (blk_cell BK654.out 3).trans rfl; have hcz15_4 : w14.cell? ⟨gb654, 4, none⟩ = some (.int .i64 ((rd_T37 l0 x17_1).f4)) := (blk_cell BK654.out 4).trans rfl; have hfz15_0 := blk_frozen BK654.out 0; have hfz15_1 := blk_frozen BK654.out 1; have hfz15_2 := blk_frozen BK654.out 2; have hfz15_3 := blk_frozen BK654.out 3; have hfz15_4 := blk_frozen BK654.out 4) | ((with_reducible refine gate_callee (f := 86) rfl ?_); refine goesL_ (some 34) rfl rfl Try.func86 kr_ rfl #[.int .i64 ((rd_T37 l0 x17_1).f4), .int .i64 ji8, .int .i64 ((rd_T37 l0 x17_1).f3)] rfl (by (try simp only [List.map_toArray, List.map_cons, List.map_nil]); first | done | (simp only [hji8]; rfl) | rfl | (simp only [List.length_drop, List.length_take]; rfl)) ?_; (with_reducible refine (impl_MulDiv.calls k1 ((rd_T37 l0 x17_1).f4) ji8 ((rd_T37 l0 x17_1).f3) t655 t656 t657 _ A9.out).mono ?_); rintro e w' ⟨rfl, ⟨nd, rfl⟩⟩; refine ⟨_, rfl, ?_⟩; (try (rw [drewN_self w14]; generalize hq_ : World.drewN w14 _ = w14; have n0_ : Aside0 (Kd.R k37 37 w14 w.heap.size (fun k_ => k_ ≠ gb654) u7 x7_1) := ⟨by rw [← hq_]; exact (pe_ HO_7.out)⟩; have n1_ : Aside0 (w14.heap[gb654]? = some (.cells #[.int .i64 ((rd_T37 l0 x17_1).f0), .int .i64 ((rd_T37 l0 x17_1).f1), .int .i64 ((rd_T37 l0 x17_1).f2), .int .i64 ((rd_T37 l0 x17_1).f3), .int .i64 ((rd_T37 l0 x17_1).f4)] 37 (0, 0))) := ⟨by rw [← hq_]; exact (pb_ BK654.out)⟩; have n2_ : Aside0 (Below w.heap.size w w14) := ⟨by rw [← hq_]; exact (bg_ GE654.out)⟩; clear HO_7 BK654 HB hq_; have HO_7 := n0_; have BK654 := n1_; have HB := n2_; clear n0_ n1_ n2_; have hcy_0 : w14.cell? ⟨gb654, 0, none⟩ = some (.int .i64 ((rd_T37 l0 x17_1).f0)) := (blk_cell BK654.out 0).trans rfl; have hfy_0 := blk_frozen BK654.out 0; have hcy_1 : w14.cell? ⟨gb654, 1, none⟩ = some (.int .i64 ((rd_T37 l0 x17_1).f1)) := (blk_cell BK654.out 1).trans rfl; have hfy_1 := blk_frozen BK654.out 1; have hcy_2 : w14.cell? ⟨gb654, 2, none⟩ = some (.int .i64 ((rd_T37 l0 x17_1).f2)) := (blk_cell BK654.out 2).trans rfl; have hfy_2 := blk_frozen BK654.out 2; have hcy_3 : w14.cell? ⟨gb654, 3, none⟩ = some (.int .i64 ((rd_T37 l0 x17_1).f3)) := (blk_cell BK654.out 3).trans rfl; have hfy_3 := blk_frozen BK654.out 3; have hcy_4 : w14.cell? ⟨gb654, 4, none⟩ = some (.int .i64 ((rd_T37 l0 x17_1).f4)) := (blk_cell BK654.out 4).trans rfl; have hfy_4 := blk_frozen BK654.out 4))) | ((with_reducible refine gate_store (t := 3) (p := 49) rfl ?_); refine store_event (t := 3) (p := 49) (v := ?vo_w16) (w1 := (w14.setCell ⟨gb654, 3, none⟩ (.int .i64 (wrap64 (((rd_T37 l0 x17_1).f3) - (ji8)))))) ?hg ?ho ?hn ?hr ?_; (case ho => rfl); (case hg => rfl); (case hn => rfl); (case hr => first | (go_simp; done) | (go_simp; rfl)); intro w16 hw; have n0_ : Aside0 (Kd.R k37 37 w16 w.heap.size (fun k_ => k_ ≠ gb654) u7 x7_1) := ⟨(by rw [hw]; exact (by (with_reducible repeat (first | apply Kd.R_alloc | apply Kd.R_drewN | apply Kd.R_drew)); exact Kd.R_mono (Kd.R_far (p := ⟨gb654, 3, none⟩) (Kd.R_mono HO_7.out (fun k_ hk => (⟨hk, hk⟩ : _ ∧ k_ ≠ gb654))) (fun _ hk => hk.2) (.int .i64 (wrap64 (((rd_T37 l0 x17_1).f3) - (ji8))))) (fun _ hk => hk.1)))⟩; have n1_ : Aside0 (w16.heap[gb654]? = some (.cells #[.int .i64 ((rd_T37 l0 x17_1).f0), .int .i64 ((rd_T37 l0 x17_1).f1), .int .i64 ((rd_T37 l0 x17_1).f2), .int .i64 (wrap64 (((rd_T37 l0 x17_1).f3) - (ji8))), .int .i64 ((rd_T37 l0 x17_1).f4)] 37 (0, 0))) := ⟨(by rw [hw]; exact (by (with_reducible repeat (first | refine blk_drewN ?_ _ | refine blk_drew ?_ | refine blk_alloc ?_ _)); refine blk_put (cs := #[.int .i64 ((rd_T37 l0 x17_1).f0), .int .i64 ((rd_T37 l0 x17_1).f1), .int .i64 ((rd_T37 l0 x17_1).f2), .int .i64 ((rd_T37 l0 x17_1).f3), .int .i64 ((rd_T37 l0 x17_1).f4)]) ?_ 3 _ rfl; (with_reducible repeat (first | refine blk_drewN ?_ _ | refine blk_drew ?_ | refine blk_alloc ?_ _)); exact BK654.out))⟩; have n2_ : Aside0 (Below w.heap.size w w16) := ⟨(by rw [hw]; exact (bg_ GE654.out))⟩; clear hw; clear HO_7; clear BK654; clear HB; have HO_7 := n0_; have BK654 := n1_; have HB := n2_; clear n0_ n1_ n2_; have hcz17_0 : w16.cell? ⟨gb654, 0, none⟩ = some (.int .i64 ((rd_T37 l0 x17_1).f0)) := (blk_cell BK654.out 0).trans rfl; have hcz17_1 : w16.cell? ⟨gb654, 1, none⟩ = some (.int .i64 ((rd_T37 l0 x17_1).f1)) := (blk_cell BK654.out 1).trans rfl; have hcz17_2 : w16.cell? ⟨gb654, 2, none⟩ = some (.int .i64 ((rd_T37 l0 x17_1).f2)) := (blk_cell BK654.out 2).trans rfl; have hcz17_3 : w16.cell? ⟨gb654, 3, none⟩ = some (.int .i64 (wrap64 (((rd_T37 l0 x17_1).f3) - (ji8)))) := (blk_cell BK654.out 3).trans rfl; have hcz17_4 : w16.cell? ⟨gb654, 4, none⟩ = some (.int .i64 ((rd_T37 l0 x17_1).f4)) := (blk_cell BK654.out 4).trans rfl; have hfz17_0 := blk_frozen BK654.out 0; have hfz17_1 := blk_frozen BK654.out 1; have hfz17_2 := blk_frozen BK654.out 2; have hfz17_3 := blk_frozen BK654.out 3; have hfz17_4 := blk_frozen BK654.out 4) | ((with_reducible refine gate_store (t := 3) (p := 54) rfl ?_); refine store_event (t := 3) (p := 54) (v := ?vo_w18) (w1 := (w16.setCell ⟨gb654, 4, none⟩ (.int .i64 (wrap64 (((rd_T37 l0 x17_1).f4) - t655))))) ?hg ?ho ?hn ?hr ?_; (case ho => rfl); (case hg => rfl); (case hn => rfl); (case hr => first | (go_simp; done) | (go_simp; rfl)); intro w18 hw; have n0_ : Aside0 (Kd.R k37 37 w18 w.heap.size (fun k_ => k_ ≠ gb654) u7 x7_1) := ⟨(by rw [hw]; exact (by (with_reducible repeat (first | apply Kd.R_alloc | apply Kd.R_drewN | apply Kd.R_drew)); exact Kd.R_mono (Kd.R_far (p := ⟨gb654, 4, none⟩) (Kd.R_mono HO_7.out (fun k_ hk => (⟨hk, hk⟩ : _ ∧ k_ ≠ gb654))) (fun _ hk => hk.2) (.int .i64 (wrap64 (((rd_T37 l0 x17_1).f4) - t655)))) (fun _ hk => hk.1)))⟩; have n1_ : Aside0 (w18.heap[gb654]? = some (.cells #[.int .i64 ((rd_T37 l0 x17_1).f0), .int .i64 ((rd_T37 l0 x17_1).f1), .int .i64 ((rd_T37 l0 x17_1).f2), .int .i64 (wrap64 (((rd_T37 l0 x17_1).f3) - (ji8))), .int .i64 (wrap64 (((rd_T37 l0 x17_1).f4) - t655))] 37 (0, 0))) := ⟨(by rw [hw]; exact (by (with_reducible repeat (first | refine blk_drewN ?_ _ | refine blk_drew ?_ | refine blk_alloc ?_ _)); refine blk_put (cs := #[.int .i64 ((rd_T37 l0 x17_1).f0), .int .i64 ((rd_T37 l0 x17_1).f1), .int .i64 ((rd_T37 l0 x17_1).f2), .int .i64 (wrap64 (((rd_T37 l0 x17_1).f3) - (ji8))), .int .i64 ((rd_T37 l0 x17_1).f4)]) ?_ 4 _ rfl; (with_reducible repeat (first | refine blk_drewN ?_ _ | refine blk_drew ?_ | refine blk_alloc ?_ _)); exact BK654.out))⟩; have n2_ : Aside0 (Below w.heap.size w w18) := ⟨(by rw [hw]; exact (bg_ GE654.out))⟩; clear hw; clear HO_7; clear BK654; clear HB; have HO_7 := n0_; have BK654 := n1_; have HB := n2_; clear n0_ n1_ n2_; have hcz19_0 : w18.cell? ⟨gb654, 0, none⟩ = some (.int .i64 ((rd_T37 l0 x17_1).f0)) := (blk_cell BK654.out 0).trans rfl; have hcz19_1 : w18.cell? ⟨gb654, 1, none⟩ = some (.int .i64 ((rd_T37 l0 x17_1).f1)) := (blk_cell BK654.out 1).trans rfl; have hcz19_2 : w18.cell? ⟨gb654, 2, none⟩ = some (.int .i64 ((rd_T37 l0 x17_1).f2)) := (blk_cell BK654.out 2).trans rfl; have hcz19_3 : w18.cell? ⟨gb654, 3, none⟩ = some (.int .i64 (wrap64 (((rd_T37 l0 x17_1).f3) - (ji8)))) := (blk_cell BK654.out 3).trans rfl; have hcz19_4 : w18.cell? ⟨gb654, 4, none⟩ = some (.int .i64 (wrap64 (((rd_T37 l0 x17_1).f4) - t655))) := (blk_cell BK654.out 4).trans rfl; have hfz19_0 := blk_frozen BK654.out 0; have hfz19_1 := blk_frozen BK654.out 1; have hfz19_2 := blk_frozen BK654.out 2; have hfz19_3 := blk_frozen BK654.out 3; have hfz19_4 := blk_frozen BK654.out 4) | ((with_reducible refine gate_builtin (b := .append) (xs := #[.tmp 55, .tmp 57]) rfl ?_); at_builtin; refine Kd.R_append k37 (w0 := w) w.heap.size rfl (.tmp 55) (.tmp 57) 25 37 (.agg #[(.int .i64 0), (.int .i64 0), (.int .i64 0), (.int .i64 0), (.int .i64 0)]) 40 rfl Try.underlying25 info37 rfl (by decide) (by omega) u7 x7_1 (⟨(rd_T37 l0 x17_1).f0, (rd_T37 l0 x17_1).f1, (rd_T37 l0 x17_1).f2, wrap64 (((rd_T37 l0 x17_1).f3) - (ji8)), wrap64 (((rd_T37 l0 x17_1).f4) - t655)⟩ : S37) [.int .i64 ((rd_T37 l0 x17_1).f0), .int .i64 ((rd_T37 l0 x17_1).f1), .int .i64 ((rd_T37 l0 x17_1).f2), .int .i64 (wrap64 (((rd_T37 l0 x17_1).f3) - (ji8))), .int .i64 (wrap64 (((rd_T37 l0 x17_1).f4) - t655))] (fun k_ => k_ ≠ gb654) (fun _ => False) rfl rfl ?aP (fun _ hk => hk.elim) ?aF ?aO ?aB ?aS ?aL ?_; (case aP => exact k37_mkM _ _ _ (⟨(rd_T37 l0 x17_1).f0, (rd_T37 l0 x17_1).f1, (rd_T37 l0 x17_1).f2, wrap64 (((rd_T37 l0 x17_1).f3) - (ji8)), wrap64 (((rd_T37 l0 x17_1).f4) - t655)⟩ : S37)); (case aB => exact (bg_ GE654.out)); (case aF => exact (fun k_ hk => Kd.freshB (g := gb654) (o := .cells #[.int .i64 ((rd_T37 l0 x17_1).f0), .int .i64 ((rd_T37 l0 x17_1).f1), .int .i64 ((rd_T37 l0 x17_1).f2), .int .i64 (wrap64 (((rd_T37 l0 x17_1).f3) - (ji8))), .int .i64 (wrap64 (((rd_T37 l0 x17_1).f4) - t655))] 37 (0, 0)) (pb_ BK654.out) k_ hk)); (case aO => exact (pe_ HO_7.out)); (case aS => exact (below_size (bg_ GE654.out))); (case aL => have := LMc11.out; omega); intro v659 w20 ho hb hg hat; rw [← Ny658.out] at ho; have n0_ := Aside0.mk (blk_grown (g := gb654) (o := .cells #[.int .i64 ((rd_T37 l0 x17_1).f0), .int .i64 ((rd_T37 l0 x17_1).f1), .int .i64 ((rd_T37 l0 x17_1).f2), .int .i64 (wrap64 (((rd_T37 l0 x17_1).f3) - (ji8))), .int .i64 (wrap64 (((rd_T37 l0 x17_1).f4) - t655))] 37 (0, 0)) (pb_ BK654.out) hg (Kd.R_away HO_7.out (fun _ hk => hk))); have n1_ := Aside0.mk (hb); have n2_ := Aside0.mk (ho); clear BK654; clear HB; clear HO_7; have BK654 := n0_; have HB := n1_; have HO660 := n2_; clear n0_ n1_ n2_; clear ho hb hg hat))
        go_roundg k1
        case measure => have := HK1.out; omega
        case rel => exact ⟨(wrap64 (x1_1 - (ji8))), (wrap64 (x6_1 + t655)), (y658), (wrap64 (x17_1 + 1)), (by first | rfl | (simp; done) | (simp only [← hji8] <;> (first | rfl | simp)) | (simp [*]; done)), (by first | rfl | (simp; done) | (simp [*]; done)), (by first | rfl | (simp; done) | (simp [*]; done)), H', ⟨by have := HK1.out; omega⟩, ⟨by (with_reducible repeat (first | apply Kd.R_alloc | apply Kd.R_drewN | apply Kd.R_drew)); exact Kd.R_mono HO660.out (fun _ hk => trivial)⟩, ⟨bg_ GE654.out⟩⟩
       ·
        rw [if_neg c11] at H
        exact absurd H (by simp)
      ·
       rw [if_neg c10] at H
       have c10b0 : decide ((ji8) < ((rd_T37 l0 x17_1).f3)) = false := decide_eq_false c10
       clear c10
       have H' := Aside0.mk H
       clear H
       have p653 : 0 ≤ (x17_1 : Int) := od_
       have q653 : x17_1 < (l0.length : Int) := od_
       obtain ⟨ad653, e653, hx653_0, hx653_1, hx653_2, hx653_3, hx653_4⟩ := at_T37 HR0.out x17_1 p653 q653
       cases e653
       replace hx653_0 := (HB.out.cell (World.block_lt_of_cell? w _ hx653_0)).trans hx653_0
       replace hx653_1 := (HB.out.cell (World.block_lt_of_cell? w _ hx653_1)).trans hx653_1
       replace hx653_2 := (HB.out.cell (World.block_lt_of_cell? w _ hx653_2)).trans hx653_2
       replace hx653_3 := (HB.out.cell (World.block_lt_of_cell? w _ hx653_3)).trans hx653_3
       replace hx653_4 := (HB.out.cell (World.block_lt_of_cell? w _ hx653_4)).trans hx653_4
       replace p653 := eq_true p653
       replace q653 := eq_true q653
       go_wp2_with (first | ((with_reducible refine gate_dst (N := 9) rfl ?_); refine box_event ?hg (N := 9) ?hd (cs := #[.int .i64 0, .int .i64 0, .int .i64 0, .int .i64 0, .int .i64 0]) (t := 37) ?hr ?_; (case hd => rfl); (case hg => rfl); (case hr => first | (go_simp; done) | (go_simp; rfl)); intro gb654 hg w21 hbox hb; have n0_ := Aside0.mk (Kd.R_below (Kd.R_elderB (pe_ HO_7.out) gb654 (Nat.le_of_eq hg.symm)) hb); have n1_ := Aside0.mk (below_step (bb_) hb); have n2_ := Aside0.mk (hbox); have n3_ := Aside0.mk ((by rw [hg]; exact (below_size (bb_)) : w.heap.size ≤ gb654)); have n4_ := Aside0.mk ((by rw [hg]; exact (below_size (bb_)) : w.heap.size ≤ gb654)); clear HO_7; clear HB; have HO_7 := n0_; have HB := n1_; have BK654 := n2_; have GW654 := n3_; have GE654 := n4_; clear n0_ n1_ n2_ n3_ n4_; clear hb hbox hg; have hcz22_0 : w21.cell? ⟨gb654, 0, none⟩ = some (.int .i64 0) := (blk_cell BK654.out 0).trans rfl; have hcz22_1 : w21.cell? ⟨gb654, 1, none⟩ = some (.int .i64 0) := (blk_cell BK654.out 1).trans rfl; have hcz22_2 : w21.cell? ⟨gb654, 2, none⟩ = some (.int .i64 0) := (blk_cell BK654.out 2).trans rfl; have hcz22_3 : w21.cell? ⟨gb654, 3, none⟩ = some (.int .i64 0) := (blk_cell BK654.out 3).trans rfl; have hcz22_4 : w21.cell? ⟨gb654, 4, none⟩ = some (.int .i64 0) := (blk_cell BK654.out 4).trans rfl; have hfz22_0 := blk_frozen BK654.out 0; have hfz22_1 := blk_frozen BK654.out 1; have hfz22_2 := blk_frozen BK654.out 2; have hfz22_3 := blk_frozen BK654.out 3; have hfz22_4 := blk_frozen BK654.out 4) | ((with_reducible refine gate_store (t := 37) (p := 9) rfl ?_); refine store_event (t := 37) (p := 9) (v := ?vo_w23) (w1 := (((((w21.setCell ⟨gb654, 0, none⟩ (.int .i64 ((rd_T37 l0 x17_1).f0))).setCell ⟨gb654, 1, none⟩ (.int .i64 ((rd_T37 l0 x17_1).f1))).setCell ⟨gb654, 2, none⟩ (.int .i64 ((rd_T37 l0 x17_1).f2))).setCell ⟨gb654, 3, none⟩ (.int .i64 ((rd_T37 l0 x17_1).f3))).setCell ⟨gb654, 4, none⟩ (.int .i64 ((rd_T37 l0 x17_1).f4)))) ?hg ?ho ?hn ?hr ?_; (case ho => rfl); (case hg => rfl); (case hn => rfl); (case hr => first | (go_simp; done) | (go_simp; rfl)); intro w23 hw; have n0_ : Aside0 (Kd.R k37 37 w23 w.heap.size (fun k_ => k_ ≠ gb654) u7 x7_1) := ⟨(by rw [hw]; exact (by (with_reducible repeat (first | apply Kd.R_alloc | apply Kd.R_drewN | apply Kd.R_drew)); exact Kd.R_mono (Kd.R_far (p := ⟨gb654, 4, none⟩) (Kd.R_far (p := ⟨gb654, 3, none⟩) (Kd.R_far (p := ⟨gb654, 2, none⟩) (Kd.R_far (p := ⟨gb654, 1, none⟩) (Kd.R_far (p := ⟨gb654, 0, none⟩) (Kd.R_mono HO_7.out (fun k_ hk => (⟨hk, hk.2⟩ : _ ∧ k_ ≠ gb654))) (fun _ hk => hk.2) (.int .i64 ((rd_T37 l0 x17_1).f0))) (fun _ hk => hk.2) (.int .i64 ((rd_T37 l0 x17_1).f1))) (fun _ hk => hk.2) (.int .i64 ((rd_T37 l0 x17_1).f2))) (fun _ hk => hk.2) (.int .i64 ((rd_T37 l0 x17_1).f3))) (fun _ hk => hk.2) (.int .i64 ((rd_T37 l0 x17_1).f4))) (fun _ hk => hk.1.2)))⟩; have n1_ : Aside0 (w23.heap[gb654]? = some (.cells #[.int .i64 ((rd_T37 l0 x17_1).f0), .int .i64 ((rd_T37 l0 x17_1).f1), .int .i64 ((rd_T37 l0 x17_1).f2), .int .i64 ((rd_T37 l0 x17_1).f3), .int .i64 ((rd_T37 l0 x17_1).f4)] 37 (0, 0))) := ⟨(by rw [hw]; exact (by (with_reducible repeat (first | refine blk_drewN ?_ _ | refine blk_drew ?_ | refine blk_alloc ?_ _)); refine blk_put (cs := #[.int .i64 ((rd_T37 l0 x17_1).f0), .int .i64 ((rd_T37 l0 x17_1).f1), .int .i64 ((rd_T37 l0 x17_1).f2), .int .i64 ((rd_T37 l0 x17_1).f3), .int .i64 0]) ?_ 4 _ rfl; (with_reducible repeat (first | refine blk_drewN ?_ _ | refine blk_drew ?_ | refine blk_alloc ?_ _)); refine blk_put (cs := #[.int .i64 ((rd_T37 l0 x17_1).f0), .int .i64 ((rd_T37 l0 x17_1).f1), .int .i64 ((rd_T37 l0 x17_1).f2), .int .i64 0, .int .i64 0]) ?_ 3 _ rfl; (with_reducible repeat (first | refine blk_drewN ?_ _ | refine blk_drew ?_ | refine blk_alloc ?_ _)); refine blk_put (cs := #[.int .i64 ((rd_T37 l0 x17_1).f0), .int .i64 ((rd_T37 l0 x17_1).f1), .int .i64 0, .int .i64 0, .int .i64 0]) ?_ 2 _ rfl; (with_reducible repeat (first | refine blk_drewN ?_ _ | refine blk_drew ?_ | refine blk_alloc ?_ _)); refine blk_put (cs := #[.int .i64 ((rd_T37 l0 x17_1).f0), .int .i64 0, .int .i64 0, .int .i64 0, .int .i64 0]) ?_ 1 _ rfl; (with_reducible repeat (first | refine blk_drewN ?_ _ | refine blk_drew ?_ | refine blk_alloc ?_ _)); refine blk_put (cs := #[.int .i64 0, .int .i64 0, .int .i64 0, .int .i64 0, .int .i64 0]) ?_ 0 _ rfl; (with_reducible repeat (first | refine blk_drewN ?_ _ | refine blk_drew ?_ | refine blk_alloc ?_ _)); exact BK654.out))⟩; have n2_ : Aside0 (Below w.heap.size w w23) := ⟨(by rw [hw]; exact (bg_ GE654.out))⟩; clear hw; clear HO_7; clear BK654; clear HB; have HO_7 := n0_; have BK654 := n1_; have HB := n2_; clear n0_ n1_ n2_; have hcz24_0 : w23.cell? ⟨gb654, 0, none⟩ = some (.int .i64 ((rd_T37 l0 x17_1).f0)) := (blk_cell BK654.out 0).trans rfl; have hcz24_1 : w23.cell? ⟨gb654, 1, none⟩ = some (.int .i64 ((rd_T37 l0 x17_1).f1)) := (blk_cell BK654.out 1).trans rfl; have hcz24_2 : w23.cell? ⟨gb654, 2, none⟩ = some (.int .i64 ((rd_T37 l0 x17_1).f2)) := (blk_cell BK654.out 2).trans rfl; have hcz24_3 : w23.cell? ⟨gb654, 3, none⟩ = some (.int .i64 ((rd_T37 l0 x17_1).f3)) := (blk_cell BK654.out 3).trans rfl; have hcz24_4 : w23.cell? ⟨gb654, 4, none⟩ = some (.int .i64 ((rd_T37 l0 x17_1).f4)) := (blk_cell BK654.out 4).trans rfl; have hfz24_0 := blk_frozen BK654.out 0; have hfz24_1 := blk_frozen BK654.out 1; have hfz24_2 := blk_frozen BK654.out 2; have hfz24_3 := blk_frozen BK654.out 3; have hfz24_4 := blk_frozen BK654.out 4) | ((with_reducible refine gate_callee (f := 86) rfl ?_); refine goesL_ (some 34) rfl rfl Try.func86 kr_ rfl #[.int .i64 ((rd_T37 l0 x17_1).f4), .int .i64 ji8, .int .i64 ((rd_T37 l0 x17_1).f3)] rfl (by (try simp only [List.map_toArray, List.map_cons, List.map_nil]); first | done | (simp only [hji8]; rfl) | rfl | (simp only [List.length_drop, List.length_take]; rfl)) ?_; (with_reducible refine (impl_MulDiv.calls k1 ((rd_T37 l0 x17_1).f4) ji8 ((rd_T37 l0 x17_1).f3) t655 t656 t657 _ A9.out).mono ?_); rintro e w' ⟨rfl, ⟨nd, rfl⟩⟩; refine ⟨_, rfl, ?_⟩))
       go_roundg k1
       case measure => have := HK1.out; omega
       case rel => exact ⟨(wrap64 (x1_1 - (ji8))), (wrap64 (x6_1 + t655)), (x7_1), (wrap64 (x17_1 + 1)), (by first | rfl | (simp; done) | (simp only [← hji8] <;> (first | rfl | simp)) | (simp [*]; done)), (by first | rfl | (simp; done) | (simp [*]; done)), (by first | rfl | (simp; done) | (simp [*]; done)), H', ⟨by have := HK1.out; omega⟩, ⟨by (with_reducible repeat (first | apply Kd.R_alloc | apply Kd.R_drewN | apply Kd.R_drew)); exact Kd.R_mono HO_7.out (fun _ hk => trivial)⟩, ⟨bg_ GE654.out⟩⟩
     ·
      rw [if_neg c7] at H
      exact absurd H (by simp)
    ·
     rw [if_neg c6] at H
     exact absurd H (by simp)
   ·
    rw [if_neg c5] at H
    have c5b0 : decide (x17_1 < (l0.length : Int)) = false := decide_eq_false c5
    clear c5
    simp only [Option.some.injEq, Prod.mk.injEq] at H
    obtain ⟨rfl, rfl⟩ := H
    go_wp2
    go_ret2
    exact ⟨_, er_, by (with_reducible repeat (first | apply Kd.R_alloc | apply Kd.R_drewN | apply Kd.R_drew)); exact HO_7.out, bb_⟩
def impl_Lot_67.f (l0 : List (S37)) : Option (List (S37)) := if l0.length < 1048577 then some l0.reverse else none
instance impl_Lot_67.inh : Inhabited (S37) := ⟨z37⟩
def impl_Lot_67.enc (x : S37) : List Value := [.int .i64 x.f0, .int .i64 x.f1, .int .i64 x.f2, .int .i64 x.f3, .int .i64 x.f4]
theorem impl_Lot_67.one (x : S37) : ∀ v ∈ impl_Lot_67.enc x, v.oneCell' = true := by
 intro v hv
 simp [impl_Lot_67.enc] at hv
 rcases hv with rfl | rfl | rfl | rfl | rfl <;> rfl
set_option maxHeartbeats 4000000 in
theorem impl_Lot_67.calls (P0_ : Nat → Prop) (u9000_ : Value) (l0 : List (S37)) (r : List (S37)) (w0 w : World) (hB : Below w0.heap.size w0 w) (ho0 : Kd.R k37 37 w w0.heap.size P0_ u9000_ l0) (h : impl_Lot_67.f l0 = some r) :
 Calls Try.prog 67 #[u9000_] w fun e w' => e = .returned (.tuple #[]) ∧ Kd.R k37 37 w' w0.heap.size (fun k_ => (P0_ k_ ∨ w.heap.size ≤ k_)) u9000_ r ∧ Below w0.heap.size w0 w' ∧ Kept w w' (fun k_ => P0_ k_) := by
 unfold impl_Lot_67.f at h
 by_cases hh : l0.length < 1048577
 ·
  rw [if_pos hh] at h
  obtain rfl := Option.some.inj h
  clear h
  rcases IN.R_cases ho0 with ⟨hv, hx⟩ | ⟨g, c', hv⟩
  ·
   subst hx
   obtain ⟨A, c, hv2⟩ := Kd.R_slice ho0
   subst hv2
   have hcon := AnyQ.slices_Reverse_empty Try.reverseLot A c w
   change Calls Try.prog 67 _ _ _ at hcon
   refine hcon.mono ?_
   rintro e w' ⟨rfl, rfl⟩
   exact ⟨rfl, Kd.R_mono ho0 (fun k_ hk => .inl hk), hB, Kept.refl _ _⟩
  ·
   subst hv
   obtain ⟨n1, n2, n3, n4, n5, _⟩ := IN.R_raw delf37_flat ho0
   have hraw : DG.Raw impl_Lot_67.enc 5 37 c' g w l0 := DG.Raw.of_R delf37_flat ho0
   have hk : ∀ x : S37, (impl_Lot_67.enc x).length = 5 := fun _ => rfl
   have hcon := AnyQ.slices_Reverse Try.reverseLot 5 Try.isAgg37 Try.sizeOf37 impl_Lot_67.enc hk impl_Lot_67.one g 0 c' l0.toArray w (SO.Raw.holds hraw hk) (by rw [List.size_toArray]; omega)
   change Calls Try.prog 67 _ _ _ at hcon
   rw [List.size_toArray] at hcon
   refine hcon.mono ?_
   rintro e w' ⟨rfl, n, rfl⟩
   have hl : l0.reverse.length = l0.length := List.length_reverse
   have hraw2 := SO.Raw.sorted hraw hk hl n #[]
   have hR := hraw2.to_R (d := k37) delf37_flat rfl n4 n5 (by rw [hl]; exact n2) n3
   rw [hl] at hR
   have hgr := SO.grownBy_sorted (w := w) (g := g) (n := n) (os := #[]) (Sort.flatK impl_Lot_67.enc 5 l0.reverse.toArray)
   have ew : Sort.putRowK impl_Lot_67.enc 5 (Sort.ahead w n) g 0 l0.toArray.reverse = sortWorldK impl_Lot_67.enc 5 w g 0 n l0.reverse.toArray #[] := by
    unfold Go.Proofs.sortWorldK
    rw [List.reverse_toArray]
    simp [Sort.grow]
   rw [ew]
   exact ⟨rfl, Kd.R_mono hR (fun k_ hk => .inl hk), hB.grown hgr hB.size (fun k e => by cases e; exact n4), Kept.of_grown hgr (Kept.refl w _) (fun k e => by cases e; exact .inl n5)⟩
 ·
  rw [if_neg hh] at h
  cases h
def impl_meanLots.f (k : Nat) (l0 : List (S37)) (a1 : Int) : Option ((List (S37)) × Int) := (impl_sumLots.f k l0).bind fun bt661 => ((impl_MulDiv.f k bt661.2 a1 bt661.1).bind fun bt663 => (if bt661.1 = a1 then (some (([] : List (S37)), bt663.1)) else (if 0 < (l0.length : Int) then (some ((([(⟨(rd_T37 l0 0).f0, (rd_T37 l0 0).f1, (rd_T37 l0 0).f2, wrap64 (bt661.1 - a1), wrap64 (bt661.2 - bt663.1)⟩ : S37)] : List (S37))), bt663.1)) else (none))))
set_option maxHeartbeats 8000000 in
set_option maxRecDepth 100000 in
theorem impl_meanLots.calls (k : Nat) (A0 : Option Addr) (c0 : Nat) (l0 : List (S37)) (a1 : Int) (r1 : List (S37)) (r2 : Int) (w : World) (hr0 : Kd.C k37 w A0 l0.length l0) (hc0 : l0.length ≤ c0) (h : impl_meanLots.f k l0 a1 = some (r1, r2)) :
 Calls Try.prog 68 #[.slice A0 l0.length c0, .int .i64 a1] w fun e w' => ∃ v0_ : Value, e = .returned (.tuple #[v0_, .int .i64 r2]) ∧ Kd.R k37 37 w' w.heap.size (fun _ => True) v0_ r1 ∧ Below w.heap.size w w' := by
 have hu37 := Try.underlying37
 have HR0 := Aside0.mk hr0
 have HC0 := Aside0.mk hc0
 clear hr0 hc0
 have HB := Aside0.mk (Below.refl w.heap.size w)
 have H : ((impl_sumLots.f k l0).bind fun bt661 => ((impl_MulDiv.f k bt661.2 a1 bt661.1).bind fun bt663 => (if bt661.1 = a1 then (some (([] : List (S37)), bt663.1)) else (if 0 < (l0.length : Int) then (some ((([(⟨(rd_T37 l0 0).f0, (rd_T37 l0 0).f1, (rd_T37 l0 0).f2, wrap64 (bt661.1 - a1), wrap64 (bt661.2 - bt663.1)⟩ : S37)] : List (S37))), bt663.1)) else (none))))) = some (r1, r2) := h
 clear h
 replace H := Option.bind_eq_some_iff.mp H
 obtain ⟨⟨t661, t662⟩, A30, H⟩ := H
 replace H : ((impl_MulDiv.f k t662 a1 t661).bind fun bt663 => (if t661 = a1 then (some (([] : List (S37)), bt663.1)) else (if 0 < (l0.length : Int) then (some ((([(⟨(rd_T37 l0 0).f0, (rd_T37 l0 0).f1, (rd_T37 l0 0).f2, wrap64 (t661 - a1), wrap64 (t662 - bt663.1)⟩ : S37)] : List (S37))), bt663.1)) else (none)))) = some (r1, r2) := H
 have A3 := Aside0.mk A30
 clear A30
 replace H := Option.bind_eq_some_iff.mp H
 obtain ⟨⟨t663, t664, t665⟩, A40, H⟩ := H
 replace H : (if t661 = a1 then (some (([] : List (S37)), t663)) else (if 0 < (l0.length : Int) then (some ((([(⟨(rd_T37 l0 0).f0, (rd_T37 l0 0).f1, (rd_T37 l0 0).f2, wrap64 (t661 - a1), wrap64 (t662 - t663)⟩ : S37)] : List (S37))), t663)) else (none))) = some (r1, r2) := H
 have A4 := Aside0.mk A40
 clear A40
 by_cases c5 : t661 = a1
 ·
  rw [if_pos c5] at H
  have c5b0 : (t661 == a1) = true := beq_iff_eq.mpr c5
  have c5b1 : (t661 != a1) = false := bne_eq_false_iff_eq.mpr c5
  clear c5
  simp only [Option.some.injEq, Prod.mk.injEq] at H
  obtain ⟨rfl, rfl⟩ := H
  go_enter Try.func68, Try.ntmps68
  go_wp2_with (first | ((with_reducible refine gate_callee (f := 46) rfl ?_); refine goesL_ (some 14) rfl rfl Try.func46 kr_ rfl #[.slice A0 l0.length c0] rfl (bc_) ?_; (with_reducible refine (impl_sumLots.calls k _ _ l0 t661 t662 _ ?side1 ?side2 A3.out).mono ?_); (case side1 => repeat (first | exact HR0.out | (with_reducible refine Kd.C_alloc ?_ _) | (with_reducible refine Kd.C_drewN ?_ _) | (with_reducible refine Kd.C_drew ?_))); (case side2 => exact HC0.out); rintro e w6 ⟨rfl, hb⟩; refine ⟨_, rfl, ?_⟩; have n0_ := Aside0.mk (below_step (bb_) hb); clear HB; have HB := n0_; clear n0_; (try clear hb); (try clear hb2); (try clear hk); (try clear hi)) | ((with_reducible refine gate_callee (f := 86) rfl ?_); refine goesL_ (some 21) rfl rfl Try.func86 kr_ rfl #[.int .i64 t662, .int .i64 a1, .int .i64 t661] rfl (bc_) ?_; (with_reducible refine (impl_MulDiv.calls k t662 a1 t661 t663 t664 t665 _ A4.out).mono ?_); rintro e w' ⟨rfl, ⟨nd, rfl⟩⟩; refine ⟨_, rfl, ?_⟩))
  go_ret2
  exact ⟨_, er_, by first | exact Kd.R_nil _ _ _ _ _ | exact Kd.N_nil _ _ _ _ _ | exact Kd.V_nil _ _ _ _ _ | exact Kd.Q_nil _ _ _ _ _ | exact Kd.S_nil _ _ _ _ _, bb_⟩
 ·
  rw [if_neg c5] at H
  have c5b0 : (t661 == a1) = false := beq_eq_false_iff_ne.mpr c5
  have c5b1 : (t661 != a1) = true := bne_iff_ne.mpr c5
  by_cases c7 : 0 < (l0.length : Int)
  ·
   rw [if_pos c7] at H
   have c7b0 : decide (0 < (l0.length : Int)) = true := decide_eq_true c7
   have c7b1 : decide (0 < l0.length) = true := decide_eq_true (by omega)
   clear c7
   obtain ⟨y668, hy668⟩ : ∃ y_ : List (S37), y_ = (([(⟨(rd_T37 l0 0).f0, (rd_T37 l0 0).f1, (rd_T37 l0 0).f2, wrap64 (t661 - a1), wrap64 (t662 - t663)⟩ : S37)] : List (S37))) := ⟨_, rfl⟩
   replace H : (some (y668, t663)) = some (r1, r2) := by first | (rw [hy668]; with_reducible exact H) | (have H2_ := (Option.bind_some _ _).symm.trans H; rw [hy668]; with_reducible exact H2_) | (have H2_ := (Option.bind_some _ _).symm.trans H; with_reducible exact H2_) | with_reducible exact H | (rw [hy668]; exact H) | exact H
   have Ny668 := Aside0.mk hy668
   clear hy668
   simp only [Option.some.injEq, Prod.mk.injEq] at H
   obtain ⟨rfl, rfl⟩ := H
   go_enter Try.func68, Try.ntmps68
   go_wp2_with (first | ((with_reducible refine gate_callee (f := 46) rfl ?_); refine goesL_ (some 14) rfl rfl Try.func46 kr_ rfl #[.slice A0 l0.length c0] rfl (bc_) ?_; (with_reducible refine (impl_sumLots.calls k _ _ l0 t661 t662 _ ?side1 ?side2 A3.out).mono ?_); (case side1 => repeat (first | exact HR0.out | (with_reducible refine Kd.C_alloc ?_ _) | (with_reducible refine Kd.C_drewN ?_ _) | (with_reducible refine Kd.C_drew ?_))); (case side2 => exact HC0.out); rintro e w8 ⟨rfl, hb⟩; refine ⟨_, rfl, ?_⟩; have n0_ := Aside0.mk (below_step (bb_) hb); clear HB; have HB := n0_; clear n0_; (try clear hb); (try clear hb2); (try clear hk); (try clear hi)) | ((with_reducible refine gate_callee (f := 86) rfl ?_); refine goesL_ (some 21) rfl rfl Try.func86 kr_ rfl #[.int .i64 t662, .int .i64 a1, .int .i64 t661] rfl (bc_) ?_; (with_reducible refine (impl_MulDiv.calls k t662 a1 t661 t663 t664 t665 _ A4.out).mono ?_); rintro e w' ⟨rfl, ⟨nd, rfl⟩⟩; refine ⟨_, rfl, ?_⟩; (try (rw [drewN_self w8]; generalize hq_ : World.drewN w8 _ = w8; have n0_ : Aside0 (Below w.heap.size w w8) := ⟨by rw [← hq_]; exact (bb_)⟩; clear HB hq_; have HB := n0_; clear n0_)); have p666 : 0 ≤ (0 : Int) := (by omega); have q666 : 0 < (l0.length : Int) := od_; obtain ⟨ad666, e666, hx666_0, hx666_1, hx666_2, hx666_3, hx666_4⟩ := at_T37 HR0.out 0 p666 q666; cases e666; have qi666 : (0 < l0.length) = True := eq_true (by omega); (try rw [show ((0 : Int)).toNat = 0 from rfl] at hx666_0); (try rw [show 0 * 5 = 0 from rfl] at hx666_0); (try rw [Addr.add_zero'] at hx666_0); (try rw [show ((0 : Int)).toNat = 0 from rfl] at hx666_1); (try rw [show 0 * 5 = 0 from rfl] at hx666_1); (try rw [Addr.add_zero'] at hx666_1); (try rw [show ((0 : Int)).toNat = 0 from rfl] at hx666_2); (try rw [show 0 * 5 = 0 from rfl] at hx666_2); (try rw [Addr.add_zero'] at hx666_2); (try rw [show ((0 : Int)).toNat = 0 from rfl] at hx666_3); (try rw [show 0 * 5 = 0 from rfl] at hx666_3); (try rw [Addr.add_zero'] at hx666_3); (try rw [show ((0 : Int)).toNat = 0 from rfl] at hx666_4); (try rw [show 0 * 5 = 0 from rfl] at hx666_4); (try rw [Addr.add_zero'] at hx666_4); replace hx666_0 := (HB.out.cell (World.block_lt_of_cell? w _ hx666_0)).trans hx666_0; replace hx666_1 := (HB.out.cell (World.block_lt_of_cell? w _ hx666_1)).trans hx666_1; replace hx666_2 := (HB.out.cell (World.block_lt_of_cell? w _ hx666_2)).trans hx666_2; replace hx666_3 := (HB.out.cell (World.block_lt_of_cell? w _ hx666_3)).trans hx666_3; replace hx666_4 := (HB.out.cell (World.block_lt_of_cell? w _ hx666_4)).trans hx666_4; replace p666 := eq_true p666; replace q666 := eq_true q666) | ((with_reducible refine gate_dst (N := 11) rfl ?_); refine box_event ?hg (N := 11) ?hd (cs := #[.int .i64 0, .int .i64 0, .int .i64 0, .int .i64 0, .int .i64 0]) (t := 37) ?hr ?_; (case hd => rfl); (case hg => rfl); (case hr => first | (go_simp; done) | (go_simp; rfl)); intro gb667 hg w9 hbox hb; have n0_ := Aside0.mk (below_step (bb_) hb); have n1_ := Aside0.mk (hbox); have n2_ := Aside0.mk ((by rw [hg]; exact (below_size (bb_)) : w.heap.size ≤ gb667)); have n3_ := Aside0.mk ((by rw [hg]; exact (below_size (bb_)) : w.heap.size ≤ gb667)); clear HB; have HB := n0_; have BK667 := n1_; have GW667 := n2_; have GE667 := n3_; clear n0_ n1_ n2_ n3_; clear hb hbox hg; have hcz10_0 : w9.cell? ⟨gb667, 0, none⟩ = some (.int .i64 0) := (blk_cell BK667.out 0).trans rfl; have hcz10_1 : w9.cell? ⟨gb667, 1, none⟩ = some (.int .i64 0) := (blk_cell BK667.out 1).trans rfl; have hcz10_2 : w9.cell? ⟨gb667, 2, none⟩ = some (.int .i64 0) := (blk_cell BK667.out 2).trans rfl; have hcz10_3 : w9.cell? ⟨gb667, 3, none⟩ = some (.int .i64 0) := (blk_cell BK667.out 3).trans rfl; have hcz10_4 : w9.cell? ⟨gb667, 4, none⟩ = some (.int .i64 0) := (blk_cell BK667.out 4).trans rfl; have hfz10_0 := blk_frozen BK667.out 0; have hfz10_1 := blk_frozen BK667.out 1; have hfz10_2 := blk_frozen BK667.out 2; have hfz10_3 := blk_frozen BK667.out 3; have hfz10_4 := blk_frozen BK667.out 4) | ((with_reducible refine gate_store (t := 37) (p := 11) rfl ?_); refine store_event (t := 37) (p := 11) (v := ?vo_w11) (w1 := (((((w9.setCell ⟨gb667, 0, none⟩ (.int .i64 ((rd_T37 l0 0).f0))).setCell ⟨gb667, 1, none⟩ (.int .i64 ((rd_T37 l0 0).f1))).setCell ⟨gb667, 2, none⟩ (.int .i64 ((rd_T37 l0 0).f2))).setCell ⟨gb667, 3, none⟩ (.int .i64 ((rd_T37 l0 0).f3))).setCell ⟨gb667, 4, none⟩ (.int .i64 ((rd_T37 l0 0).f4)))) ?hg ?ho ?hn ?hr ?_; (case ho => rfl); (case hg => rfl); (case hn => rfl); (case hr => first | (go_simp; done) | (go_simp; rfl)); intro w11 hw; have n0_ : Aside0 (w11.heap[gb667]? = some (.cells #[.int .i64 ((rd_T37 l0 0).f0), .int .i64 ((rd_T37 l0 0).f1), .int .i64 ((rd_T37 l0 0).f2), .int .i64 ((rd_T37 l0 0).f3), .int .i64 ((rd_T37 l0 0).f4)] 37 (0, 0))) := ⟨(by rw [hw]; exact (by (with_reducible repeat (first | refine blk_drewN ?_ _ | refine blk_drew ?_ | refine blk_alloc ?_ _)); refine blk_put (cs := #[.int .i64 ((rd_T37 l0 0).f0), .int .i64 ((rd_T37 l0 0).f1), .int .i64 ((rd_T37 l0 0).f2), .int .i64 ((rd_T37 l0 0).f3), .int .i64 0]) ?_ 4 _ rfl; (with_reducible repeat (first | refine blk_drewN ?_ _ | refine blk_drew ?_ | refine blk_alloc ?_ _)); refine blk_put (cs := #[.int .i64 ((rd_T37 l0 0).f0), .int .i64 ((rd_T37 l0 0).f1), .int .i64 ((rd_T37 l0 0).f2), .int .i64 0, .int .i64 0]) ?_ 3 _ rfl; (with_reducible repeat (first | refine blk_drewN ?_ _ | refine blk_drew ?_ | refine blk_alloc ?_ _)); refine blk_put (cs := #[.int .i64 ((rd_T37 l0 0).f0), .int .i64 ((rd_T37 l0 0).f1), .int .i64 0, .int .i64 0, .int .i64 0]) ?_ 2 _ rfl; (with_reducible repeat (first | refine blk_drewN ?_ _ | refine blk_drew ?_ | refine blk_alloc ?_ _)); refine blk_put (cs := #[.int .i64 ((rd_T37 l0 0).f0), .int .i64 0, .int .i64 0, .int .i64 0, .int .i64 0]) ?_ 1 _ rfl; (with_reducible repeat (first | refine blk_drewN ?_ _ | refine blk_drew ?_ | refine blk_alloc ?_ _)); refine blk_put (cs := #[.int .i64 0, .int .i64 0, .int .i64 0, .int .i64 0, .int .i64 0]) ?_ 0 _ rfl; (with_reducible repeat (first | refine blk_drewN ?_ _ | refine blk_drew ?_ | refine blk_alloc ?_ _)); exact BK667.out))⟩; have n1_ : Aside0 (Below w.heap.size w w11) := ⟨(by rw [hw]; exact (bg_ GE667.out))⟩; clear hw; clear BK667; clear HB; have BK667 := n0_; have HB := n1_; clear n0_ n1_; have hcz12_0 : w11.cell? ⟨gb667, 0, none⟩ = some (.int .i64 ((rd_T37 l0 0).f0)) := (blk_cell BK667.out 0).trans rfl; have hcz12_1 : w11.cell? ⟨gb667, 1, none⟩ = some (.int .i64 ((rd_T37 l0 0).f1)) := (blk_cell BK667.out 1).trans rfl; have hcz12_2 : w11.cell? ⟨gb667, 2, none⟩ = some (.int .i64 ((rd_T37 l0 0).f2)) := (blk_cell BK667.out 2).trans rfl; have hcz12_3 : w11.cell? ⟨gb667, 3, none⟩ = some (.int .i64 ((rd_T37 l0 0).f3)) := (blk_cell BK667.out 3).trans rfl; have hcz12_4 : w11.cell? ⟨gb667, 4, none⟩ = some (.int .i64 ((rd_T37 l0 0).f4)) := (blk_cell BK667.out 4).trans rfl; have hfz12_0 := blk_frozen BK667.out 0; have hfz12_1 := blk_frozen BK667.out 1; have hfz12_2 := blk_frozen BK667.out 2; have hfz12_3 := blk_frozen BK667.out 3; have hfz12_4 := blk_frozen BK667.out 4) | ((with_reducible refine gate_store (t := 3) (p := 38) rfl ?_); refine store_event (t := 3) (p := 38) (v := ?vo_w13) (w1 := (w11.setCell ⟨gb667, 3, none⟩ (.int .i64 (wrap64 (t661 - a1))))) ?hg ?ho ?hn ?hr ?_; (case ho => rfl); (case hg => rfl); (case hn => rfl); (case hr => first | (go_simp; done) | (go_simp; rfl)); intro w13 hw; have n0_ : Aside0 (w13.heap[gb667]? = some (.cells #[.int .i64 ((rd_T37 l0 0).f0), .int .i64 ((rd_T37 l0 0).f1), .int .i64 ((rd_T37 l0 0).f2), .int .i64 (wrap64 (t661 - a1)), .int .i64 ((rd_T37 l0 0).f4)] 37 (0, 0))) := ⟨(by rw [hw]; exact (by (with_reducible repeat (first | refine blk_drewN ?_ _ | refine blk_drew ?_ | refine blk_alloc ?_ _)); refine blk_put (cs := #[.int .i64 ((rd_T37 l0 0).f0), .int .i64 ((rd_T37 l0 0).f1), .int .i64 ((rd_T37 l0 0).f2), .int .i64 ((rd_T37 l0 0).f3), .int .i64 ((rd_T37 l0 0).f4)]) ?_ 3 _ rfl; (with_reducible repeat (first | refine blk_drewN ?_ _ | refine blk_drew ?_ | refine blk_alloc ?_ _)); exact BK667.out))⟩; have n1_ : Aside0 (Below w.heap.size w w13) := ⟨(by rw [hw]; exact (bg_ GE667.out))⟩; clear hw; clear BK667; clear HB; have BK667 := n0_; have HB := n1_; clear n0_ n1_; have hcz14_0 : w13.cell? ⟨gb667, 0, none⟩ = some (.int .i64 ((rd_T37 l0 0).f0)) := (blk_cell BK667.out 0).trans rfl; have hcz14_1 : w13.cell? ⟨gb667, 1, none⟩ = some (.int .i64 ((rd_T37 l0 0).f1)) := (blk_cell BK667.out 1).trans rfl; have hcz14_2 : w13.cell? ⟨gb667, 2, none⟩ = some (.int .i64 ((rd_T37 l0 0).f2)) := (blk_cell BK667.out 2).trans rfl; have hcz14_3 : w13.cell? ⟨gb667, 3, none⟩ = some (.int .i64 (wrap64 (t661 - a1))) := (blk_cell BK667.out 3).trans rfl; have hcz14_4 : w13.cell? ⟨gb667, 4, none⟩ = some (.int .i64 ((rd_T37 l0 0).f4)) := (blk_cell BK667.out 4).trans rfl; have hfz14_0 := blk_frozen BK667.out 0; have hfz14_1 := blk_frozen BK667.out 1; have hfz14_2 := blk_frozen BK667.out 2; have hfz14_3 := blk_frozen BK667.out 3; have hfz14_4 := blk_frozen BK667.out 4) | ((with_reducible refine gate_store (t := 3) (p := 39) rfl ?_); refine store_event (t := 3) (p := 39) (v := ?vo_w15) (w1 := (w13.setCell ⟨gb667, 4, none⟩ (.int .i64 (wrap64 (t662 - t663))))) ?hg ?ho ?hn ?hr ?_; (case ho => rfl); (case hg => rfl); (case hn => rfl); (case hr => first | (go_simp; done) | (go_simp; rfl)); intro w15 hw; have n0_ : Aside0 (w15.heap[gb667]? = some (.cells #[.int .i64 ((rd_T37 l0 0).f0), .int .i64 ((rd_T37 l0 0).f1), .int .i64 ((rd_T37 l0 0).f2), .int .i64 (wrap64 (t661 - a1)), .int .i64 (wrap64 (t662 - t663))] 37 (0, 0))) := ⟨(by rw [hw]; exact (by (with_reducible repeat (first | refine blk_drewN ?_ _ | refine blk_drew ?_ | refine blk_alloc ?_ _)); refine blk_put (cs := #[.int .i64 ((rd_T37 l0 0).f0), .int .i64 ((rd_T37 l0 0).f1), .int .i64 ((rd_T37 l0 0).f2), .int .i64 (wrap64 (t661 - a1)), .int .i64 ((rd_T37 l0 0).f4)]) ?_ 4 _ rfl; (with_reducible repeat (first | refine blk_drewN ?_ _ | refine blk_drew ?_ | refine blk_alloc ?_ _)); exact BK667.out))⟩; have n1_ : Aside0 (Below w.heap.size w w15) := ⟨(by rw [hw]; exact (bg_ GE667.out))⟩; clear hw; clear BK667; clear HB; have BK667 := n0_; have HB := n1_; clear n0_ n1_; have hcz16_0 : w15.cell? ⟨gb667, 0, none⟩ = some (.int .i64 ((rd_T37 l0 0).f0)) := (blk_cell BK667.out 0).trans rfl; have hcz16_1 : w15.cell? ⟨gb667, 1, none⟩ = some (.int .i64 ((rd_T37 l0 0).f1)) := (blk_cell BK667.out 1).trans rfl; have hcz16_2 : w15.cell? ⟨gb667, 2, none⟩ = some (.int .i64 ((rd_T37 l0 0).f2)) := (blk_cell BK667.out 2).trans rfl; have hcz16_3 : w15.cell? ⟨gb667, 3, none⟩ = some (.int .i64 (wrap64 (t661 - a1))) := (blk_cell BK667.out 3).trans rfl; have hcz16_4 : w15.cell? ⟨gb667, 4, none⟩ = some (.int .i64 (wrap64 (t662 - t663))) := (blk_cell BK667.out 4).trans rfl; have hfz16_0 := blk_frozen BK667.out 0; have hfz16_1 := blk_frozen BK667.out 1; have hfz16_2 := blk_frozen BK667.out 2; have hfz16_3 := blk_frozen BK667.out 3; have hfz16_4 := blk_frozen BK667.out 4) | ((with_reducible refine gate_dst (N := 41) rfl ?_); refine Kd.R_lit k37 _ 37 ?hg (N := 41) ?hd (xs := ([(⟨(rd_T37 l0 0).f0, (rd_T37 l0 0).f1, (rd_T37 l0 0).f2, wrap64 (t661 - a1), wrap64 (t662 - t663)⟩ : S37)] : List (S37))) (inner := [.int .i64 ((rd_T37 l0 0).f0), .int .i64 ((rd_T37 l0 0).f1), .int .i64 ((rd_T37 l0 0).f2), .int .i64 (wrap64 (t661 - a1)), .int .i64 (wrap64 (t662 - t663))]) (ok := fun _ => True) (okp := fun _ => True) ?hr ?hp (fun _ hk => hk) trivial (Below.refl _ _) (Nat.le_refl _) (by simp) ?_; (case hd => rfl); (case hg => rfl); (case hr => first | (go_simp; done) | (go_simp; rfl)); (case hp => exact (Reps.c5 (show Kd.M k37 _ _ _ (⟨(rd_T37 l0 0).f0, (rd_T37 l0 0).f1, (rd_T37 l0 0).f2, wrap64 (t661 - a1), wrap64 (t662 - t663)⟩ : S37) [.int .i64 ((rd_T37 l0 0).f0), .int .i64 ((rd_T37 l0 0).f1), .int .i64 ((rd_T37 l0 0).f2), .int .i64 (wrap64 (t661 - a1)), .int .i64 (wrap64 (t662 - t663))] from (k37_mkM _ _ _ (⟨(rd_T37 l0 0).f0, (rd_T37 l0 0).f1, (rd_T37 l0 0).f2, wrap64 (t661 - a1), wrap64 (t662 - t663)⟩ : S37) )) (Reps.none _ _))); intro v669 w17 ho18 hb hg_ hnew_; clear hg_ hnew_; (first | rw [← Ny668.out] at ho18 | (simp only [Int.reduceToNat] at ho18; rw [← Ny668.out] at ho18)); have n0_ := Aside0.mk (Kd.R_lower (Kd.R_newB ho18 (g := gb667) (o := .cells #[.int .i64 ((rd_T37 l0 0).f0), .int .i64 ((rd_T37 l0 0).f1), .int .i64 ((rd_T37 l0 0).f2), .int .i64 (wrap64 (t661 - a1)), .int .i64 (wrap64 (t662 - t663))] 37 (0, 0)) (pb_ BK667.out)) (below_size (bg_ GE667.out))); have n1_ := Aside0.mk (blk_below (g := gb667) (o := .cells #[.int .i64 ((rd_T37 l0 0).f0), .int .i64 ((rd_T37 l0 0).f1), .int .i64 ((rd_T37 l0 0).f2), .int .i64 (wrap64 (t661 - a1)), .int .i64 (wrap64 (t662 - t663))] 37 (0, 0)) (pb_ BK667.out) hb); have n2_ := Aside0.mk (below_step (bg_ GE667.out) hb); clear BK667; clear HB; have HO670 := n0_; have BK667 := n1_; have HB := n2_; clear n0_ n1_ n2_; clear hb ho18))
   go_ret2
   exact ⟨_, er_, by (with_reducible repeat (first | apply Kd.R_alloc | apply Kd.R_drewN | apply Kd.R_drew)); exact Kd.R_mono HO670.out (fun _ hk => trivial), bg_ GE667.out⟩
  ·
   rw [if_neg c7] at H
   exact absurd H (by simp)
instance : Inhabited (S37) := ⟨z37⟩
def impl_withLots.enc (x : S37) : List Value := [.int .i64 x.f0, .int .i64 x.f1, .int .i64 x.f2, .int .i64 x.f3, .int .i64 x.f4]
def impl_withLots.rest (l : List (S37)) (a b : Int) : List (S37) := l.filter fun x => !decide (x.f0 = a ∧ x.f1 = b)
def impl_withLots.srt (l : List (S37)) : List (S37) := l.mergeSort fun x y => !decide (impl_LotsOk.cmp y x < 0)
def impl_withLots.uniq (l : List (S37)) : Prop := ∀ x ∈ l, ∀ y ∈ l, x.f0 = y.f0 ∧ x.f1 = y.f1 ∧ x.f2 = y.f2 → x.f3 = y.f3 ∧ x.f4 = y.f4
instance (l : List (S37)) : Decidable (impl_withLots.uniq l) := by unfold impl_withLots.uniq; exact inferInstance
def impl_withLots.f (l0 : List (S37)) (a1 a2 : Int) (l3 : List (S37)) : Option (List (S37)) := if l0.length < 1048577 ∧ l3.length < 1048577 ∧ impl_withLots.uniq (impl_withLots.rest l0 a1 a2 ++ l3) then some (impl_withLots.srt (impl_withLots.rest l0 a1 a2 ++ l3)) else none
theorem impl_withLots.cmp_iff (x y : S37) : impl_LotsOk.cmp x y < 0 ↔ (x.f0 < y.f0 ∨ (x.f0 = y.f0 ∧ (x.f1 < y.f1 ∨ (x.f1 = y.f1 ∧ x.f2 < y.f2)))) := by
 unfold impl_LotsOk.cmp
 by_cases h0 : x.f0 < y.f0
 ·
  rw [if_pos h0]; omega
 ·
  rw [if_neg h0]
  by_cases h1 : y.f0 < x.f0
  ·
   rw [if_pos h1]; omega
  ·
   rw [if_neg h1]
   by_cases h2 : x.f1 < y.f1
   ·
    rw [if_pos h2]; omega
   ·
    rw [if_neg h2]
    by_cases h3 : y.f1 < x.f1
    ·
     rw [if_pos h3]; omega
    ·
     rw [if_neg h3]
     by_cases h4 : x.f2 < y.f2
     ·
      rw [if_pos h4]; omega
     ·
      rw [if_neg h4]
      by_cases h5 : y.f2 < x.f2
      ·
       rw [if_pos h5]; omega
      ·
       rw [if_neg h5]; omega
theorem impl_withLots.lt_ (x y : S37) : ltOf impl_LotsOk.cmp x y = decide (x.f0 < y.f0 ∨ (x.f0 = y.f0 ∧ (x.f1 < y.f1 ∨ (x.f1 = y.f1 ∧ x.f2 < y.f2)))) := by
 unfold ltOf
 rw [Bool.eq_iff_iff, decide_eq_true_iff, decide_eq_true_iff]
 exact impl_withLots.cmp_iff x y
theorem impl_withLots.swo : Sort.SWO (ltOf impl_LotsOk.cmp) where
 irrefl x := by rw [impl_withLots.lt_, decide_eq_false_iff_not]; omega
 trans x y z h1 h2 := by rw [impl_withLots.lt_, decide_eq_true_iff] at *; omega
 ntrans x y z h1 h2 := by rw [impl_withLots.lt_, decide_eq_false_iff_not] at *; omega
set_option maxHeartbeats 8000000 in
set_option maxRecDepth 100000 in
theorem impl_withLots.bef (x y : S37) (W : World) : Calls Try.prog 43 #[.agg #[.int .i64 x.f0, .int .i64 x.f1, .int .i64 x.f2, .int .i64 x.f3, .int .i64 x.f4], .agg #[.int .i64 y.f0, .int .i64 y.f1, .int .i64 y.f2, .int .i64 y.f3, .int .i64 y.f4]] W fun e w' => e = .returned (.int .i64 (impl_LotsOk.cmp x y)) ∧ ∃ q os', w' = Sort.grow (W.drewN q) os' := by
 have H0 := impl_LotsOk.cmp_ x y
 unfold impl_lotBefore.f at H0
 replace H0 := Option.bind_eq_some_iff.mp H0
 obtain ⟨t, ht, H0⟩ := H0
 have HT := Aside0.mk ht
 clear ht
 generalize impl_LotsOk.cmp x y = r at H0 ⊢
 by_cases h0 : t = 0
 ·
  rw [if_pos h0] at H0
  subst h0
  by_cases h1 : x.f2 < y.f2
  ·
   rw [if_pos h1] at H0
   obtain rfl := Option.some.inj H0
   have c1 : decide (x.f2 < y.f2) = true := decide_eq_true h1
   clear H0 h1
   go_enter Try.func43, Try.ntmps43
   go_wp2_with (go_at_call 77; refine (impl_byBoth.calls 1 _ _ _ _ _ _ HT.out).mono ?_; rintro e w' ⟨rfl, ⟨nd, rfl⟩⟩)
   go_ret
   exact ⟨by first | rfl | (simp; done) | (simp [*]; done), _, _, SO.alloc2_grow _ _ _ _⟩
  ·
   rw [if_neg h1] at H0
   have c1 : decide (x.f2 < y.f2) = false := decide_eq_false h1
   by_cases h2 : x.f2 > y.f2
   ·
    rw [if_pos h2] at H0
    obtain rfl := Option.some.inj H0
    have c2 : decide (y.f2 < x.f2) = true := decide_eq_true h2
    clear H0 h1 h2
    go_enter Try.func43, Try.ntmps43
    go_wp2_with (go_at_call 77; refine (impl_byBoth.calls 1 _ _ _ _ _ _ HT.out).mono ?_; rintro e w' ⟨rfl, ⟨nd, rfl⟩⟩)
    go_ret
    exact ⟨by first | rfl | (simp; done) | (simp [*]; done), _, _, SO.alloc2_grow _ _ _ _⟩
   ·
    rw [if_neg h2] at H0
    obtain rfl := Option.some.inj H0
    have c2 : decide (y.f2 < x.f2) = false := decide_eq_false h2
    clear H0 h1 h2
    go_enter Try.func43, Try.ntmps43
    go_wp2_with (go_at_call 77; refine (impl_byBoth.calls 1 _ _ _ _ _ _ HT.out).mono ?_; rintro e w' ⟨rfl, ⟨nd, rfl⟩⟩)
    go_ret
    exact ⟨by first | rfl | (simp; done) | (simp [*]; done), _, _, SO.alloc2_grow _ _ _ _⟩
 ·
  rw [if_neg h0] at H0
  obtain rfl := Option.some.inj H0
  have c1 : (t != 0) = true := bne_iff_ne.mpr h0
  have c2 : (t == 0) = false := beq_eq_false_iff_ne.mpr h0
  clear H0 h0
  go_enter Try.func43, Try.ntmps43
  go_wp2_with (go_at_call 77; refine (impl_byBoth.calls 1 _ _ _ _ _ _ HT.out).mono ?_; rintro e w' ⟨rfl, ⟨nd, rfl⟩⟩)
  go_ret
  exact ⟨by first | rfl | (simp; done) | (simp [*]; done), _, _, SO.alloc2_grow _ _ _ _⟩
theorem impl_withLots.one (x : S37) : ∀ v ∈ impl_withLots.enc x, v.oneCell' = true := by
 intro v hv
 simp [impl_withLots.enc] at hv
 rcases hv with rfl | rfl | rfl | rfl | rfl <;> rfl
theorem impl_withLots.anti {l : List (S37)} (hu : impl_withLots.uniq l) : ∀ x ∈ l, ∀ y ∈ l, ltOf impl_LotsOk.cmp x y = false → ltOf impl_LotsOk.cmp y x = false → x = y := by
 intro x hx y hy h1 h2
 rw [impl_withLots.lt_, decide_eq_false_iff_not] at h1 h2
 have h3 := hu x hx y hy ⟨by omega, by omega, by omega⟩
 have e0 : x.f0 = y.f0 := by omega
 have e1 : x.f1 = y.f1 := by omega
 have e2 : x.f2 = y.f2 := by omega
 cases x
 cases y
 simp only at h3 e0 e1 e2
 rw [e0, e1, e2, h3.1, h3.2]
set_option maxHeartbeats 4000000 in
theorem impl_withLots.sort_ (A : Option Addr) (c base : Nat) (ok : Nat → Prop) (xs : List (S37)) (w : World) (ho : Kd.R k37 37 w base ok (.slice A xs.length c) xs) (hl0 : xs.length < 4611686018427387904) (hu : impl_withLots.uniq xs) :
 Calls Try.prog 88 #[.slice A xs.length c, .func (.func 43) #[] #[]] w fun e w' => e = .returned (.tuple #[]) ∧ Kd.R k37 37 w' base ok (.slice A xs.length c) (impl_withLots.srt xs) ∧ w.grownBy w' (Value.slice A xs.length c).ownBlock := by
 rcases IN.R_cases ho with ⟨hv, hx⟩ | ⟨g, c', hv⟩
 ·
  subst hx
  have hcon := AnyF.slices_SortFunc_none Try.sortLot A c (.func (.func 43) #[] #[]) w
  change Calls Try.prog 88 _ _ _ at hcon
  refine hcon.mono ?_
  rintro e w' ⟨rfl, rfl⟩
  exact ⟨rfl, by simpa [impl_withLots.srt] using ho, World.grownBy.refl _ _⟩
 ·
  injection hv with hA hn hc
  subst hA
  subst hc
  obtain ⟨n1, n2, n3, n4, n5, _⟩ := IN.R_raw delf37_flat ho
  have hraw : DG.Raw impl_withLots.enc 5 37 c g w xs := DG.Raw.of_R delf37_flat ho
  have hk : ∀ x : S37, (impl_withLots.enc x).length = 5 := fun _ => rfl
  have eg : ∀ args w, (callFunc 43 args).run Try.prog w = .ok (.enter 43 args) w := Go.Proofs.enters_of Try.func43 kr_ rfl
  have hcon := AnyQ.slices_SortFunc Try.sortLot 5 Try.isAgg37 Try.sizeOf37 impl_withLots.enc hk impl_withLots.one impl_LotsOk.cmp impl_withLots.swo 43 #[] g 0 c xs.toArray w eg (fun _ _ _ _ x y => impl_withLots.bef x y _) (SO.Raw.holds hraw hk) hraw.lt (by rw [List.size_toArray]; exact hl0)
  change Calls Try.prog 88 _ _ _ at hcon
  rw [List.size_toArray] at hcon
  refine hcon.mono ?_
  rintro e w' ⟨rfl, d', n, os, hp, hs, rfl⟩
  have e1 : d'.toList = impl_withLots.srt xs := by
   have h1 := SO.sorted_one impl_withLots.swo xs.toArray d' (by simpa using impl_withLots.anti hu) (by simpa using hp) (by simpa using hs)
   exact h1
  have e2 : d' = (impl_withLots.srt xs).toArray := by rw [← e1]
  have hl : (impl_withLots.srt xs).length = xs.length := List.length_mergeSort _
  rw [e2]
  have hraw2 := SO.Raw.sorted hraw hk hl n os
  have hR := hraw2.to_R (d := k37) delf37_flat rfl n4 n5 (by rw [hl]; exact n2) n3
  rw [hl] at hR
  exact ⟨rfl, hR, SO.grownBy_sorted _⟩
set_option maxHeartbeats 8000000 in
set_option maxRecDepth 100000 in
theorem impl_withLots.clo (B1 B2 : Nat) (a1 a2 : Int) (x : S37) (W : World) (h1 : W.cell? ⟨B1, 0, none⟩ = some (.int .i64 a1)) (h2 : W.cell? ⟨B2, 0, none⟩ = some (.int .i64 a2)) :
 Calls Try.prog 87 #[.agg #[.int .i64 x.f0, .int .i64 x.f1, .int .i64 x.f2, .int .i64 x.f3, .int .i64 x.f4], .pointer (some ⟨B1, 0, none⟩), .pointer (some ⟨B2, 0, none⟩)] W fun e W' => e = .returned (.bool (decide (x.f0 = a1 ∧ x.f1 = a2))) ∧ Below W.heap.size W W' := by
 have HB := Aside0.mk (Below.refl W.heap.size W)
 have HI := Aside0.mk (impl_lotsOf.is_ x a1 a2)
 obtain ⟨q, hq⟩ : ∃ q, decide (x.f0 = a1 ∧ x.f1 = a2) = q := ⟨_, rfl⟩
 rw [hq] at HI ⊢
 clear hq
 have HQ := Aside0.mk (show ∀ W2, Below W.heap.size W W2 → Calls Try.prog 81 #[.agg #[.int .i64 x.f0, .int .i64 x.f1, .int .i64 x.f2, .int .i64 x.f3, .int .i64 x.f4], .int .i64 a1, .int .i64 a2] W2 fun e W' => e = .returned (.bool q) ∧ Below W2.heap.size W2 W' from fun W2 _ => impl_isLot.calls _ _ _ _ _ _ _ q W2 HI.out)
 have g1 := Lib.cell?_alloc_some (.cells #[.int .i64 x.f0, .int .i64 x.f1, .int .i64 x.f2, .int .i64 x.f3, .int .i64 x.f4] 37 (0, 0)) h1
 have g2 := Lib.cell?_alloc_some (.cells #[.int .i64 x.f0, .int .i64 x.f1, .int .i64 x.f2, .int .i64 x.f3, .int .i64 x.f4] 37 (0, 0)) h2
 clear h1 h2
 go_enter Try.func87, Try.ntmps87
 go_wp2_with (go_at_call 81; refine (HQ.out _ (below_alloc HB.out _)).mono ?_; rintro e w6 ⟨rfl, hb6⟩; have HB6 := Aside0.mk hb6; clear hb6)
 all_goals
  go_ret
  exact ⟨by first | rfl | (simp; done) | (simp [*]; done), below_step (below_alloc HB.out _) HB6.out⟩
theorem impl_withLots.predB {B1 B2 : Nat} {a1 a2 : Int} {w : World} (c1 : w.cell? ⟨B1, 0, none⟩ = some (.int .i64 a1)) (c2 : w.cell? ⟨B2, 0, none⟩ = some (.int .i64 a2)) :
 X0.FnB Try.prog 87 #[.pointer (some ⟨B1, 0, none⟩), .pointer (some ⟨B2, 0, none⟩)] w (fun x : S37 => .agg #[.int .i64 x.f0, .int .i64 x.f1, .int .i64 x.f2, .int .i64 x.f3, .int .i64 x.f4]) (fun x => decide (x.f0 = a1 ∧ x.f1 = a2)) :=
 ⟨_, Try.func87, by kernel_rfl, rfl, fun x W hW => impl_withLots.clo B1 B2 a1 a2 x W ((hW.cell (World.block_lt_of_cell? w _ c1)).trans c1) ((hW.cell (World.block_lt_of_cell? w _ c2)).trans c2)⟩
theorem impl_withLots.predG {B1 B2 g : Nat} {a1 a2 : Int} {w : World} (c1 : w.cell? ⟨B1, 0, none⟩ = some (.int .i64 a1)) (c2 : w.cell? ⟨B2, 0, none⟩ = some (.int .i64 a2)) (n1 : B1 < g) (n2 : B2 < g) :
 DG.FnG Try.prog 87 #[.pointer (some ⟨B1, 0, none⟩), .pointer (some ⟨B2, 0, none⟩)] w g (fun x : S37 => .agg #[.int .i64 x.f0, .int .i64 x.f1, .int .i64 x.f2, .int .i64 x.f3, .int .i64 x.f4]) (fun x => decide (x.f0 = a1 ∧ x.f1 = a2)) :=
 ⟨_, Try.func87, by kernel_rfl, rfl, fun x W hW => impl_withLots.clo B1 B2 a1 a2 x W (hW.cell c1 (by simp; omega)) (hW.cell c2 (by simp; omega))⟩
set_option maxHeartbeats 8000000 in
set_option maxRecDepth 100000 in
theorem impl_withLots.calls (A0 : Option Addr) (c0 : Nat) (l0 : List (S37)) (a1 a2 : Int) (A3 : Option Addr) (c3 : Nat) (l3 : List (S37)) (r : List (S37)) (w : World) (hr0 : Kd.C k37 w A0 l0.length l0) (hc0 : l0.length ≤ c0) (hr3 : Kd.C k37 w A3 l3.length l3) (hc3 : l3.length ≤ c3) (h : impl_withLots.f l0 a1 a2 l3 = some r) :
 Calls Try.prog 69 #[.slice A0 l0.length c0, .int .i64 a1, .int .i64 a2, .slice A3 l3.length c3] w fun e w' => ∃ v0_ : Value, e = .returned (v0_) ∧ Kd.R k37 37 w' w.heap.size (fun _ => True) v0_ r ∧ Below w.heap.size w w' := by
 unfold impl_withLots.f at h
 by_cases hh : l0.length < 1048577 ∧ l3.length < 1048577 ∧ impl_withLots.uniq (impl_withLots.rest l0 a1 a2 ++ l3)
 ·
  rw [if_pos hh] at h
  obtain rfl := Option.some.inj h
  clear h
  have hcl : impl_Lot_55.f l0 = some l0 := by
   unfold impl_Lot_55.f
   rw [Option.bind_some, List.length_nil, if_pos (by omega), List.nil_append]
  have HC := Aside0.mk hcl
  have HR0 := Aside0.mk hr0
  have HC0 := Aside0.mk hc0
  have HR3 := Aside0.mk hr3
  have HC3 := Aside0.mk hc3
  have HB := Aside0.mk (Below.refl w.heap.size w)
  have HL := Aside0.mk hh.1
  have HL3 : Aside0 (((impl_withLots.rest l0 a1 a2).length + l3.length) * 40 ≤ 140737488355328) := ⟨by
   have h1 : (impl_withLots.rest l0 a1 a2).length ≤ l0.length := List.length_filter_le _ _
   omega⟩
  have HU := Aside0.mk hh.2.2
  have HF : Aside0 ((l0.filter fun x => !decide (x.f0 = a1 ∧ x.f1 = a2)) = impl_withLots.rest l0 a1 a2) := ⟨rfl⟩
  clear hr0 hc0 hr3 hc3 hcl hh
  generalize impl_withLots.rest l0 a1 a2 = l1 at HL3 HU HF ⊢
  have HL2 : Aside0 ((l1 ++ l3).length < 4611686018427387904) := ⟨by have := HL3.out; rw [List.length_append]; omega⟩
  obtain ⟨l2, hl2⟩ : ∃ l2, l1 ++ l3 = l2 := ⟨_, rfl⟩
  rw [hl2] at HU HL2 ⊢
  have HE := Aside0.mk hl2
  clear hl2
  go_enter Try.func69, Try.ntmps69
  have hsz := impl_lotsOf.up w (.cells #[.int .i64 a1] 3 (0, 0)) (.cells #[.int .i64 a2] 3 (0, 0))
  go_wp2_with (first | (go_at_call 55; refine (impl_Lot_55.calls A0 c0 l0 l0 _ (Kd.C_alloc (Kd.C_alloc HR0.out _) _) HC0.out HC.out).mono ?_; rintro e w5 ⟨v, rfl, ho, hb⟩; have HO := Aside0.mk ho; have HB5 := Aside0.mk hb; clear ho hb) | (go_at_call 79; refine (DeleteFunc_st37.calls _ _ v l0 87 #[.pointer (some ⟨w.heap.size, 0, none⟩), .pointer (some ⟨w.heap.size + 1, 0, none⟩)] (fun x => decide (x.f0 = a1 ∧ x.f1 = a2)) _ HO.out HL.out (impl_withLots.predB (impl_lotsOf.c1 HB5.out) (impl_lotsOf.c2 HB5.out)) (fun g _ hg => impl_withLots.predG (impl_lotsOf.c1 HB5.out) (impl_lotsOf.c2 HB5.out) (impl_lotsOf.lt1 hg) (impl_lotsOf.lt2 hg))).mono ?_; rintro e w6 ⟨v6, rfl, ho, hg⟩; have hb5 := below_step (below_alloc (below_alloc (Below.refl _ _) _) _) HB5.out; have HB6 := Aside0.mk (hb5.grown hg (below_size hb5) (fun k hk => Nat.le_trans hsz (impl_lotsOf.own HO.out k hk))); rw [HF.out] at ho; have HO6 := Aside0.mk (Kd.R_lower ho hsz); clear ho hg hb5) | ((with_reducible refine gate_builtin (b := .append) (xs := #[.tmp 14, .tmp 15]) rfl ?_); at_builtin; refine Kd.R_append_rows k37 (w0 := w) w.heap.size rfl (.tmp 14) (.tmp 15) 25 37 (.agg #[(.int .i64 0), (.int .i64 0), (.int .i64 0), (.int .i64 0), (.int .i64 0)]) 40 rfl Try.underlying25 info37 rfl (by decide) (by omega) v6 l1 l3 _ _ _ (fun _ => True) (fun _ => False) rfl rfl HO6.out (Kd.C_below HR3.out HB6.out) (fun _ _ h => h) (fun _ h => h.elim) (fun _ _ => trivial) HB6.out (below_size HB6.out) HL3.out ?_; intro v7 w7 ho hb hg hat; rw [HE.out] at ho; obtain ⟨A7, c7, rfl⟩ := Kd.R_slice ho; have HO7 := Aside0.mk ho; have HB7 := Aside0.mk hb; clear ho hb hg hat) | (go_at_call 88; refine (impl_withLots.sort_ A7 c7 _ _ l2 _ HO7.out HL2.out HU.out).mono ?_; rintro e w8 ⟨rfl, ho, hg⟩; have HO8 := Aside0.mk ho; have HG8 := Aside0.mk hg; clear ho hg))
  go_ret
  exact ⟨_, by first | rfl | (simp; done) | (simp [*]; done), HO8.out, HB7.out.grown HG8.out (below_size HB7.out) (fun k hk => impl_lotsOf.own HO7.out k hk)⟩
 ·
  rw [if_neg hh] at h
  cases h
end Go.Proofs.Ytomanpmffjkkgaa.P
namespace Go.Proofs.Ytomanpmffjkkgaa.P
open Go.RowKit Go.Proofs.YtomanpmffjkkgaaW.PrintWords Go.Proofs.YtomanpmffjkkgaaW.PrintLast Go.Proofs.YtomanpmffjkkgaaW.PrintMore
attribute [local go_sem] max2_int min2_int max_two min_two max_three min_three max_four min_four   -- for this text's walks alone
set_option linter.unusedVariables false
set_option linter.unusedSimpArgs false
def impl_LotTake.j0 : Nat → List (S37) → Int → Int → Int → Int → Bool → Option ((List (S37)) × Int × Int)
 | 0, _, _, _, _, _, _ => none
 | k + 1, x0, x1, x2, x3, x4, x30 => if x30 = true then (some (([] : List (S37)), 0, 1)) else ((impl_lotsOf.f x0 x1 x2).bind fun t674 => ((impl_sumLots.f k t674).bind fun bt677 => (if bt677.1 < x3 then ((impl_Lot_55.f x0).bind fun t679 => (some (t679, 0, 2))) else (if x4 = 1 then ((impl_takeLots.f k t674 x3).bind fun bt682 => ((impl_withLots.f x0 x1 x2 bt682.1).bind fun t686 => (some (t686, bt682.2, 0)))) else (if x4 = 2 then ((impl_Lot_67.f t674).bind fun t689 => ((impl_takeLots.f k t689 x3).bind fun bt690 => ((impl_withLots.f x0 x1 x2 bt690.1).bind fun t694 => (some (t694, bt690.2, 0))))) else (if x4 = 3 then ((impl_meanLots.f k t674 x3).bind fun bt697 => ((impl_withLots.f x0 x1 x2 bt697.1).bind fun t701 => (some (t701, bt697.2, 0)))) else ((impl_withLots.f x0 x1 x2 ([] : List (S37))).bind fun t704 => (some (t704, 0, 0)))))))))
def impl_LotTake.f (k : Nat) (l0 : List (S37)) (a1 : Int) (a2 : Int) (a3 : Int) (a4 : Int) : Option ((List (S37)) × Int × Int) := (impl_LotsOk.f l0).bind fun t671 => (if t671 = true then ((impl_in.f a3 1 1000000000000000).bind fun t672 => (if t672 = true then ((impl_in.f a4 1 3).bind fun t673 => (impl_LotTake.j0 k l0 a1 a2 a3 a4 (!t673))) else (impl_LotTake.j0 k l0 a1 a2 a3 a4 true))) else (impl_LotTake.j0 k l0 a1 a2 a3 a4 true))
set_option maxHeartbeats 8000000 in
set_option maxRecDepth 100000 in
theorem impl_LotTake.calls (k : Nat) (A0 : Option Addr) (c0 : Nat) (l0 : List (S37)) (a1 : Int) (a2 : Int) (a3 : Int) (a4 : Int) (r1 : List (S37)) (r2 : Int) (r3 : Int) (w : World) (hr0 : Kd.C k37 w A0 l0.length l0) (hc0 : l0.length ≤ c0) (h : impl_LotTake.f k l0 a1 a2 a3 a4 = some (r1, r2, r3)) :
 Calls Try.prog 34 #[.slice A0 l0.length c0, .int .i64 a1, .int .i64 a2, .int .i64 a3, .int .i64 a4] w fun e w' => ∃ v0_ : Value, e = .returned (.tuple #[v0_, .int .i64 r2, .int .i64 r3]) ∧ Kd.R k37 37 w' w.heap.size (fun _ => True) v0_ r1 ∧ Below w.heap.size w w' := by
 have HR0 := Aside0.mk hr0
 have HC0 := Aside0.mk hc0
 clear hr0 hc0
 have HB := Aside0.mk (Below.refl w.heap.size w)
 have H : ((impl_LotsOk.f l0).bind fun t671 => (if t671 = true then ((impl_in.f a3 1 1000000000000000).bind fun t672 => (if t672 = true then ((impl_in.f a4 1 3).bind fun t673 => (impl_LotTake.j0 k l0 a1 a2 a3 a4 (!t673))) else (impl_LotTake.j0 k l0 a1 a2 a3 a4 true))) else (impl_LotTake.j0 k l0 a1 a2 a3 a4 true))) = some (r1, r2, r3) := h
 clear h
 have HC6 := Aside0.mk H
 clear H
 go_enter Try.func34, Try.ntmps34
 go_upto_region 1 with (fail)
 go_cut [30] (fun v30 wc => ∃ (kq : Nat) (x30_5 : Bool), v30 = .bool x30_5 ∧ Aside0 (impl_LotTake.j0 kq l0 a1 a2 a3 a4 x30_5 = some (r1, r2, r3)) ∧ Aside0 (kq ≤ k) ∧ Aside0 (Below w.heap.size w wc))
 case first =>
  have H := HC6.out
  clear HC6
  replace H := Option.bind_eq_some_iff.mp H
  obtain ⟨t671, A70, H⟩ := H
  replace H : (if t671 = true then ((impl_in.f a3 1 1000000000000000).bind fun t672 => (if t672 = true then ((impl_in.f a4 1 3).bind fun t673 => (impl_LotTake.j0 k l0 a1 a2 a3 a4 (!t673))) else (impl_LotTake.j0 k l0 a1 a2 a3 a4 true))) else (impl_LotTake.j0 k l0 a1 a2 a3 a4 true)) = some (r1, r2, r3) := H
  have A7 := Aside0.mk A70
  clear A70
  by_cases c8 : t671 = true
  ·
   subst c8
   have H1 : ((impl_in.f a3 1 1000000000000000).bind fun t672 => (if t672 = true then ((impl_in.f a4 1 3).bind fun t673 => (impl_LotTake.j0 k l0 a1 a2 a3 a4 (!t673))) else (impl_LotTake.j0 k l0 a1 a2 a3 a4 true))) = some (r1, r2, r3) := by rw [if_pos rfl] at H; exact H
   clear H
   have H := H1
   clear H1
   replace H := Option.bind_eq_some_iff.mp H
   obtain ⟨t672, A90, H⟩ := H
   replace H : (if t672 = true then ((impl_in.f a4 1 3).bind fun t673 => (impl_LotTake.j0 k l0 a1 a2 a3 a4 (!t673))) else (impl_LotTake.j0 k l0 a1 a2 a3 a4 true)) = some (r1, r2, r3) := H
   have A9 := Aside0.mk A90
   clear A90
   by_cases c10 : t672 = true
   ·
    subst c10
    have H1 : ((impl_in.f a4 1 3).bind fun t673 => (impl_LotTake.j0 k l0 a1 a2 a3 a4 (!t673))) = some (r1, r2, r3) := by rw [if_pos rfl] at H; exact H
    clear H
    have H := H1
    clear H1
    replace H := Option.bind_eq_some_iff.mp H
    obtain ⟨t673, A110, H⟩ := H
    replace H : (impl_LotTake.j0 k l0 a1 a2 a3 a4 (!t673)) = some (r1, r2, r3) := H
    have A11 := Aside0.mk A110
    clear A110
    have H' := Aside0.mk H
    clear H
    go_wp2_with (first | ((with_reducible refine gate_callee (f := 17) rfl ?_); refine goesL_ (some 19) rfl rfl Try.func17 kr_ rfl #[.slice A0 l0.length c0] rfl (bc_) ?_; (with_reducible refine (impl_LotsOk.calls _ _ l0 true _ ?side1 ?side2 A7.out).mono ?_); (case side1 => repeat (first | exact (Kd.C_below HR0.out HB.out) | (with_reducible refine Kd.C_alloc ?_ _) | (with_reducible refine Kd.C_drewN ?_ _) | (with_reducible refine Kd.C_drew ?_))); (case side2 => exact HC0.out); rintro e w12 ⟨rfl, hb⟩; refine ⟨_, rfl, ?_⟩; have n0_ := Aside0.mk (below_step (bb_) hb); clear HB; have HB := n0_; clear n0_; (try clear hb); (try clear hb2); (try clear hk); (try clear hi)) | (go_at_call 65; (with_reducible refine (impl_in.calls a3 1 1000000000000000 true _ A9.out).mono ?_); rintro e w' ⟨rfl, ⟨nd, rfl⟩⟩) | (go_at_call 65; (with_reducible refine (impl_in.calls a4 1 3 t673 _ A11.out).mono ?_); rintro e w' ⟨rfl, ⟨nd, rfl⟩⟩))
    go_meet
    case rel => exact ⟨_, (!t673), (by first | rfl | (simp; done) | (simp [*]; done)), H', ⟨by first | omega | exact Nat.le_refl _⟩, ⟨bb_⟩⟩
   ·
    replace c10 := Bool.eq_false_iff.mpr c10
    subst c10
    have H1 : (impl_LotTake.j0 k l0 a1 a2 a3 a4 true) = some (r1, r2, r3) := by rw [if_neg (show ¬ (false = true) by decide)] at H; exact H
    clear H
    have H := H1
    clear H1
    have H' := Aside0.mk H
    clear H
    go_wp2_with (first | ((with_reducible refine gate_callee (f := 17) rfl ?_); refine goesL_ (some 19) rfl rfl Try.func17 kr_ rfl #[.slice A0 l0.length c0] rfl (bc_) ?_; (with_reducible refine (impl_LotsOk.calls _ _ l0 true _ ?side1 ?side2 A7.out).mono ?_); (case side1 => repeat (first | exact (Kd.C_below HR0.out HB.out) | (with_reducible refine Kd.C_alloc ?_ _) | (with_reducible refine Kd.C_drewN ?_ _) | (with_reducible refine Kd.C_drew ?_))); (case side2 => exact HC0.out); rintro e w13 ⟨rfl, hb⟩; refine ⟨_, rfl, ?_⟩; have n0_ := Aside0.mk (below_step (bb_) hb); clear HB; have HB := n0_; clear n0_; (try clear hb); (try clear hb2); (try clear hk); (try clear hi)) | (go_at_call 65; (with_reducible refine (impl_in.calls a3 1 1000000000000000 false _ A9.out).mono ?_); rintro e w' ⟨rfl, ⟨nd, rfl⟩⟩))
    go_meet
    case rel => exact ⟨_, (true), (by first | rfl | (simp; done) | (simp [*]; done)), H', ⟨by first | omega | exact Nat.le_refl _⟩, ⟨bb_⟩⟩
  ·
   replace c8 := Bool.eq_false_iff.mpr c8
   subst c8
   have H1 : (impl_LotTake.j0 k l0 a1 a2 a3 a4 true) = some (r1, r2, r3) := by rw [if_neg (show ¬ (false = true) by decide)] at H; exact H
   clear H
   have H := H1
   clear H1
   have H' := Aside0.mk H
   clear H
   go_wp2_with (first | ((with_reducible refine gate_callee (f := 17) rfl ?_); refine goesL_ (some 19) rfl rfl Try.func17 kr_ rfl #[.slice A0 l0.length c0] rfl (bc_) ?_; (with_reducible refine (impl_LotsOk.calls _ _ l0 false _ ?side1 ?side2 A7.out).mono ?_); (case side1 => repeat (first | exact (Kd.C_below HR0.out HB.out) | (with_reducible refine Kd.C_alloc ?_ _) | (with_reducible refine Kd.C_drewN ?_ _) | (with_reducible refine Kd.C_drew ?_))); (case side2 => exact HC0.out); rintro e w14 ⟨rfl, hb⟩; refine ⟨_, rfl, ?_⟩; have n0_ := Aside0.mk (below_step (bb_) hb); clear HB; have HB := n0_; clear n0_; (try clear hb); (try clear hb2); (try clear hk); (try clear hi)))
   go_meet
   case rel => exact ⟨_, (true), (by first | rfl | (simp; done) | (simp [*]; done)), H', ⟨by first | omega | exact Nat.le_refl _⟩, ⟨bb_⟩⟩
 case rest =>
  clear HC6
  try clear c1
  try clear p2
  try clear c3
  try clear c8
  try clear c10
  obtain ⟨kq, x30_5, rfl, HA, HJ5, HB⟩ := hcut
  cases kq with
  | zero => exact absurd HA.out (by simp [impl_LotTake.j0])
  | succ kj5 =>
   have H := HA.out
   clear HA
   simp only [impl_LotTake.j0] at H
   by_cases c15 : x30_5 = true
   ·
    subst c15
    have H1 : (some (([] : List (S37)), 0, 1)) = some (r1, r2, r3) := by rw [if_pos rfl] at H; exact H
    clear H
    have H := H1
    clear H1
    simp only [Option.some.injEq, Prod.mk.injEq] at H
    obtain ⟨rfl, rfl, rfl⟩ := H
    go_wp2
    go_ret3
    exact ⟨_, er_, by first | exact Kd.R_nil _ _ _ _ _ | exact Kd.N_nil _ _ _ _ _ | exact Kd.V_nil _ _ _ _ _ | exact Kd.Q_nil _ _ _ _ _ | exact Kd.S_nil _ _ _ _ _, bb_⟩
   ·
    replace c15 := Bool.eq_false_iff.mpr c15
    subst c15
    have H1 : ((impl_lotsOf.f l0 a1 a2).bind fun t674 => ((impl_sumLots.f kj5 t674).bind fun bt677 => (if bt677.1 < a3 then ((impl_Lot_55.f l0).bind fun t679 => (some (t679, 0, 2))) else (if a4 = 1 then ((impl_takeLots.f kj5 t674 a3).bind fun bt682 => ((impl_withLots.f l0 a1 a2 bt682.1).bind fun t686 => (some (t686, bt682.2, 0)))) else (if a4 = 2 then ((impl_Lot_67.f t674).bind fun t689 => ((impl_takeLots.f kj5 t689 a3).bind fun bt690 => ((impl_withLots.f l0 a1 a2 bt690.1).bind fun t694 => (some (t694, bt690.2, 0))))) else (if a4 = 3 then ((impl_meanLots.f kj5 t674 a3).bind fun bt697 => ((impl_withLots.f l0 a1 a2 bt697.1).bind fun t701 => (some (t701, bt697.2, 0)))) else ((impl_withLots.f l0 a1 a2 ([] : List (S37))).bind fun t704 => (some (t704, 0, 0))))))))) = some (r1, r2, r3) := by rw [if_neg (show ¬ (false = true) by decide)] at H; exact H
    clear H
    have H := H1
    clear H1
    replace H := Option.bind_eq_some_iff.mp H
    obtain ⟨t674, A160, H⟩ := H
    replace H : ((impl_sumLots.f kj5 t674).bind fun bt677 => (if bt677.1 < a3 then ((impl_Lot_55.f l0).bind fun t679 => (some (t679, 0, 2))) else (if a4 = 1 then ((impl_takeLots.f kj5 t674 a3).bind fun bt682 => ((impl_withLots.f l0 a1 a2 bt682.1).bind fun t686 => (some (t686, bt682.2, 0)))) else (if a4 = 2 then ((impl_Lot_67.f t674).bind fun t689 => ((impl_takeLots.f kj5 t689 a3).bind fun bt690 => ((impl_withLots.f l0 a1 a2 bt690.1).bind fun t694 => (some (t694, bt690.2, 0))))) else (if a4 = 3 then ((impl_meanLots.f kj5 t674 a3).bind fun bt697 => ((impl_withLots.f l0 a1 a2 bt697.1).bind fun t701 => (some (t701, bt697.2, 0)))) else ((impl_withLots.f l0 a1 a2 ([] : List (S37))).bind fun t704 => (some (t704, 0, 0)))))))) = some (r1, r2, r3) := H
    have A16 := Aside0.mk A160
    clear A160
    replace H := Option.bind_eq_some_iff.mp H
    obtain ⟨⟨t677, t678⟩, A170, H⟩ := H
    replace H : (if t677 < a3 then ((impl_Lot_55.f l0).bind fun t679 => (some (t679, 0, 2))) else (if a4 = 1 then ((impl_takeLots.f kj5 t674 a3).bind fun bt682 => ((impl_withLots.f l0 a1 a2 bt682.1).bind fun t686 => (some (t686, bt682.2, 0)))) else (if a4 = 2 then ((impl_Lot_67.f t674).bind fun t689 => ((impl_takeLots.f kj5 t689 a3).bind fun bt690 => ((impl_withLots.f l0 a1 a2 bt690.1).bind fun t694 => (some (t694, bt690.2, 0))))) else (if a4 = 3 then ((impl_meanLots.f kj5 t674 a3).bind fun bt697 => ((impl_withLots.f l0 a1 a2 bt697.1).bind fun t701 => (some (t701, bt697.2, 0)))) else ((impl_withLots.f l0 a1 a2 ([] : List (S37))).bind fun t704 => (some (t704, 0, 0))))))) = some (r1, r2, r3) := H
    have A17 := Aside0.mk A170
    clear A170
    by_cases c18 : t677 < a3
    ·
     rw [if_pos c18] at H
     have c18b0 : decide (t677 < a3) = true := decide_eq_true c18
     clear c18
     replace H := Option.bind_eq_some_iff.mp H
     obtain ⟨t679, A190, H⟩ := H
     replace H : (some (t679, 0, 2)) = some (r1, r2, r3) := H
     have A19 := Aside0.mk A190
     clear A190
     simp only [Option.some.injEq, Prod.mk.injEq] at H
     obtain ⟨rfl, rfl, rfl⟩ := H
     go_wp2_with (first | ((with_reducible refine gate_callee (f := 47) rfl ?_); refine goesL_ (some 34) rfl rfl Try.func47 kr_ rfl #[.slice A0 l0.length c0, .int .i64 a1, .int .i64 a2] rfl (bc_) ?_; (with_reducible refine (impl_lotsOf.calls _ _ l0 a1 a2 t674 _ ?side1 ?side2 A16.out).mono ?_); (case side1 => repeat (first | exact (Kd.C_below HR0.out HB.out) | (with_reducible refine Kd.C_alloc ?_ _) | (with_reducible refine Kd.C_drewN ?_ _) | (with_reducible refine Kd.C_drew ?_))); (case side2 => exact HC0.out); rintro e w20 ⟨v675, rfl, ho0, hb⟩; refine ⟨_, rfl, ?_⟩; have n0_ := Aside0.mk (Kd.R_lower ho0 (below_size (bb_))); have n1_ := Aside0.mk (below_step (bb_) hb); clear HB; have HO676 := n0_; have HB := n1_; clear n0_ n1_; (try clear hb); (try clear hb2); (try clear hk); (try clear hi); (try clear ho0); obtain ⟨Ao21, co21, eo21⟩ := Kd.R_slice HO676.out; subst eo21) | ((with_reducible refine gate_callee (f := 46) rfl ?_); refine goesL_ (some 37) rfl rfl Try.func46 kr_ rfl #[.slice Ao21 t674.length co21] rfl (bc_) ?_; (with_reducible refine (impl_sumLots.calls kj5 _ _ t674 t677 t678 _ ?side1 ?side2 A17.out).mono ?_); (case side1 => repeat (first | exact (Kd.R_reads' HO676.out).2.2 | (with_reducible refine Kd.C_alloc ?_ _) | (with_reducible refine Kd.C_drewN ?_ _) | (with_reducible refine Kd.C_drew ?_))); (case side2 => exact (Kd.R_reads' HO676.out).2.1); rintro e w22 ⟨rfl, hb⟩; refine ⟨_, rfl, ?_⟩; have n0_ := Aside0.mk (Kd.R_below (pe_ HO676.out) hb); have n1_ := Aside0.mk (below_step (bb_) hb); clear HO676; clear HB; have HO676 := n0_; have HB := n1_; clear n0_ n1_; (try clear hb); (try clear hb2); (try clear hk); (try clear hi)) | ((with_reducible refine gate_callee (f := 55) rfl ?_); refine goesL_ (some 44) rfl rfl Try.func55 kr_ rfl #[.slice A0 l0.length c0] rfl (bc_) ?_; (with_reducible refine (impl_Lot_55.calls _ _ l0 t679 _ ?side1 ?side2 A19.out).mono ?_); (case side1 => repeat (first | exact (Kd.C_below HR0.out HB.out) | (with_reducible refine Kd.C_alloc ?_ _) | (with_reducible refine Kd.C_drewN ?_ _) | (with_reducible refine Kd.C_drew ?_))); (case side2 => exact HC0.out); rintro e w23 ⟨v680, rfl, ho0, hb⟩; refine ⟨_, rfl, ?_⟩; have n0_ := Aside0.mk (Kd.R_elder' (pe_ HO676.out) (Kd.R_base ho0) hb); have n1_ := Aside0.mk (Kd.R_lower (Kd.R_new' ho0 (Kd.R_lt (pe_ HO676.out))) (below_size (bb_))); have n2_ := Aside0.mk (below_step (bb_) hb); clear HO676; clear HB; have HO676 := n0_; have HO681 := n1_; have HB := n2_; clear n0_ n1_ n2_; (try clear hb); (try clear hb2); (try clear hk); (try clear hi); (try clear ho0)))
     go_ret3
     exact ⟨_, er_, by (with_reducible repeat (first | apply Kd.R_alloc | apply Kd.R_drewN | apply Kd.R_drew)); exact Kd.R_mono HO681.out (fun _ hk => trivial), bb_⟩
    ·
     rw [if_neg c18] at H
     have c18b0 : decide (t677 < a3) = false := decide_eq_false c18
     clear c18
     by_cases c24 : a4 = 1
     ·
      rw [if_pos c24] at H
      have c24b0 : (a4 == 1) = true := beq_iff_eq.mpr c24
      have c24b1 : (a4 != 1) = false := bne_eq_false_iff_eq.mpr c24
      clear c24
      replace H := Option.bind_eq_some_iff.mp H
      obtain ⟨⟨t682, t683⟩, A250, H⟩ := H
      replace H : ((impl_withLots.f l0 a1 a2 t682).bind fun t686 => (some (t686, t683, 0))) = some (r1, r2, r3) := H
      have A25 := Aside0.mk A250
      clear A250
      replace H := Option.bind_eq_some_iff.mp H
      obtain ⟨t686, A260, H⟩ := H
      replace H : (some (t686, t683, 0)) = some (r1, r2, r3) := H
      have A26 := Aside0.mk A260
      clear A260
      simp only [Option.some.injEq, Prod.mk.injEq] at H
      obtain ⟨rfl, rfl, rfl⟩ := H
      go_wp2_with (first | ((with_reducible refine gate_callee (f := 47) rfl ?_); refine goesL_ (some 34) rfl rfl Try.func47 kr_ rfl #[.slice A0 l0.length c0, .int .i64 a1, .int .i64 a2] rfl (bc_) ?_; (with_reducible refine (impl_lotsOf.calls _ _ l0 a1 a2 t674 _ ?side1 ?side2 A16.out).mono ?_); (case side1 => repeat (first | exact (Kd.C_below HR0.out HB.out) | (with_reducible refine Kd.C_alloc ?_ _) | (with_reducible refine Kd.C_drewN ?_ _) | (with_reducible refine Kd.C_drew ?_))); (case side2 => exact HC0.out); rintro e w27 ⟨v675, rfl, ho0, hb⟩; refine ⟨_, rfl, ?_⟩; have n0_ := Aside0.mk (Kd.R_lower ho0 (below_size (bb_))); have n1_ := Aside0.mk (below_step (bb_) hb); clear HB; have HO676 := n0_; have HB := n1_; clear n0_ n1_; (try clear hb); (try clear hb2); (try clear hk); (try clear hi); (try clear ho0); obtain ⟨Ao28, co28, eo28⟩ := Kd.R_slice HO676.out; subst eo28) | ((with_reducible refine gate_callee (f := 46) rfl ?_); refine goesL_ (some 37) rfl rfl Try.func46 kr_ rfl #[.slice Ao28 t674.length co28] rfl (bc_) ?_; (with_reducible refine (impl_sumLots.calls kj5 _ _ t674 t677 t678 _ ?side1 ?side2 A17.out).mono ?_); (case side1 => repeat (first | exact (Kd.R_reads' HO676.out).2.2 | (with_reducible refine Kd.C_alloc ?_ _) | (with_reducible refine Kd.C_drewN ?_ _) | (with_reducible refine Kd.C_drew ?_))); (case side2 => exact (Kd.R_reads' HO676.out).2.1); rintro e w29 ⟨rfl, hb⟩; refine ⟨_, rfl, ?_⟩; have n0_ := Aside0.mk (Kd.R_below (pe_ HO676.out) hb); have n1_ := Aside0.mk (below_step (bb_) hb); clear HO676; clear HB; have HO676 := n0_; have HB := n1_; clear n0_ n1_; (try clear hb); (try clear hb2); (try clear hk); (try clear hi)) | ((with_reducible refine gate_callee (f := 66) rfl ?_); refine goesL_ (some 51) rfl rfl Try.func66 kr_ rfl #[.slice Ao28 t674.length co28, .int .i64 a3] rfl (bc_) ?_; (with_reducible refine (impl_takeLots.calls kj5 _ _ t674 a3 t682 t683 _ ?side1 ?side2 A25.out).mono ?_); (case side1 => repeat (first | exact (Kd.R_reads' HO676.out).2.2 | (with_reducible refine Kd.C_alloc ?_ _) | (with_reducible refine Kd.C_drewN ?_ _) | (with_reducible refine Kd.C_drew ?_))); (case side2 => exact (Kd.R_reads' HO676.out).2.1); rintro e w30 ⟨v684, rfl, ho0, hb⟩; refine ⟨_, rfl, ?_⟩; have n0_ := Aside0.mk (Kd.R_elder' (pe_ HO676.out) (Kd.R_base ho0) hb); have n1_ := Aside0.mk (Kd.R_lower (Kd.R_new' ho0 (Kd.R_lt (pe_ HO676.out))) (below_size (bb_))); have n2_ := Aside0.mk (below_step (bb_) hb); clear HO676; clear HB; have HO676 := n0_; have HO685 := n1_; have HB := n2_; clear n0_ n1_ n2_; (try clear hb); (try clear hb2); (try clear hk); (try clear hi); (try clear ho0); obtain ⟨Ao31, co31, eo31⟩ := Kd.R_slice HO685.out; subst eo31) | ((with_reducible refine gate_callee (f := 69) rfl ?_); refine goesL_ (some 76) rfl rfl Try.func69 kr_ rfl #[.slice A0 l0.length c0, .int .i64 a1, .int .i64 a2, .slice Ao31 t682.length co31] rfl (bc_) ?_; (with_reducible refine (impl_withLots.calls _ _ l0 a1 a2 _ _ t682 t686 _ ?side1 ?side2 ?side3 ?side4 A26.out).mono ?_); (case side1 => repeat (first | exact (Kd.C_below HR0.out HB.out) | (with_reducible refine Kd.C_alloc ?_ _) | (with_reducible refine Kd.C_drewN ?_ _) | (with_reducible refine Kd.C_drew ?_))); (case side2 => exact HC0.out); (case side3 => repeat (first | exact (Kd.R_reads' HO685.out).2.2 | (with_reducible refine Kd.C_alloc ?_ _) | (with_reducible refine Kd.C_drewN ?_ _) | (with_reducible refine Kd.C_drew ?_))); (case side4 => exact (Kd.R_reads' HO685.out).2.1); rintro e w32 ⟨v687, rfl, ho0, hb⟩; refine ⟨_, rfl, ?_⟩; have n0_ := Aside0.mk (Kd.R_elder' (pe_ HO676.out) (Kd.R_base ho0) hb); have n1_ := Aside0.mk (Kd.R_elder' (pe_ HO685.out) (Kd.R_base ho0) hb); have n2_ := Aside0.mk (Kd.R_lower (Kd.R_new' (Kd.R_new' ho0 (Kd.R_lt (pe_ HO676.out))) (Kd.R_lt (pe_ HO685.out))) (below_size (bb_))); have n3_ := Aside0.mk (below_step (bb_) hb); clear HO676; clear HO685; clear HB; have HO676 := n0_; have HO685 := n1_; have HO688 := n2_; have HB := n3_; clear n0_ n1_ n2_ n3_; (try clear hb); (try clear hb2); (try clear hk); (try clear hi); (try clear ho0)))
      go_ret3
      exact ⟨_, er_, by (with_reducible repeat (first | apply Kd.R_alloc | apply Kd.R_drewN | apply Kd.R_drew)); exact Kd.R_mono HO688.out (fun _ hk => trivial), bb_⟩
     ·
      rw [if_neg c24] at H
      have c24b0 : (a4 == 1) = false := beq_eq_false_iff_ne.mpr c24
      have c24b1 : (a4 != 1) = true := bne_iff_ne.mpr c24
      by_cases c33 : a4 = 2
      ·
       rw [if_pos c33] at H
       have c33b0 : (a4 == 2) = true := beq_iff_eq.mpr c33
       have c33b1 : (a4 != 2) = false := bne_eq_false_iff_eq.mpr c33
       clear c33
       replace H := Option.bind_eq_some_iff.mp H
       obtain ⟨t689, A340, H⟩ := H
       replace H : ((impl_takeLots.f kj5 t689 a3).bind fun bt690 => ((impl_withLots.f l0 a1 a2 bt690.1).bind fun t694 => (some (t694, bt690.2, 0)))) = some (r1, r2, r3) := H
       have A34 := Aside0.mk A340
       clear A340
       replace H := Option.bind_eq_some_iff.mp H
       obtain ⟨⟨t690, t691⟩, A350, H⟩ := H
       replace H : ((impl_withLots.f l0 a1 a2 t690).bind fun t694 => (some (t694, t691, 0))) = some (r1, r2, r3) := H
       have A35 := Aside0.mk A350
       clear A350
       replace H := Option.bind_eq_some_iff.mp H
       obtain ⟨t694, A360, H⟩ := H
       replace H : (some (t694, t691, 0)) = some (r1, r2, r3) := H
       have A36 := Aside0.mk A360
       clear A360
       simp only [Option.some.injEq, Prod.mk.injEq] at H
       obtain ⟨rfl, rfl, rfl⟩ := H
       go_wp2_with (first | ((with_reducible refine gate_callee (f := 47) rfl ?_); refine goesL_ (some 34) rfl rfl Try.func47 kr_ rfl #[.slice A0 l0.length c0, .int .i64 a1, .int .i64 a2] rfl (bc_) ?_; (with_reducible refine (impl_lotsOf.calls _ _ l0 a1 a2 t674 _ ?side1 ?side2 A16.out).mono ?_); (case side1 => repeat (first | exact (Kd.C_below HR0.out HB.out) | (with_reducible refine Kd.C_alloc ?_ _) | (with_reducible refine Kd.C_drewN ?_ _) | (with_reducible refine Kd.C_drew ?_))); (case side2 => exact HC0.out); rintro e w37 ⟨v675, rfl, ho0, hb⟩; refine ⟨_, rfl, ?_⟩; have n0_ := Aside0.mk (Kd.R_lower ho0 (below_size (bb_))); have n1_ := Aside0.mk (below_step (bb_) hb); clear HB; have HO676 := n0_; have HB := n1_; clear n0_ n1_; (try clear hb); (try clear hb2); (try clear hk); (try clear hi); (try clear ho0); obtain ⟨Ao38, co38, eo38⟩ := Kd.R_slice HO676.out; subst eo38) | ((with_reducible refine gate_callee (f := 46) rfl ?_); refine goesL_ (some 37) rfl rfl Try.func46 kr_ rfl #[.slice Ao38 t674.length co38] rfl (bc_) ?_; (with_reducible refine (impl_sumLots.calls kj5 _ _ t674 t677 t678 _ ?side1 ?side2 A17.out).mono ?_); (case side1 => repeat (first | exact (Kd.R_reads' HO676.out).2.2 | (with_reducible refine Kd.C_alloc ?_ _) | (with_reducible refine Kd.C_drewN ?_ _) | (with_reducible refine Kd.C_drew ?_))); (case side2 => exact (Kd.R_reads' HO676.out).2.1); rintro e w39 ⟨rfl, hb⟩; refine ⟨_, rfl, ?_⟩; have n0_ := Aside0.mk (Kd.R_below (pe_ HO676.out) hb); have n1_ := Aside0.mk (below_step (bb_) hb); clear HO676; clear HB; have HO676 := n0_; have HB := n1_; clear n0_ n1_; (try clear hb); (try clear hb2); (try clear hk); (try clear hi)) | ((with_reducible refine gate_callee (f := 67) rfl ?_); refine goesL_ (some 57) rfl rfl Try.func67 kr_ rfl #[.slice Ao38 t674.length co38] rfl (bc_) ?_; (with_reducible refine (impl_Lot_67.calls (fun k_ => some k_ = (.slice Ao38 t674.length co38 : Value).ownBlock) (.slice Ao38 t674.length co38) t674 t689 w _ ?side1 ?side2 A34.out).mono ?_); (case side1 => repeat (first | (with_reducible first | exact HB.out | apply below_alloc | apply pw_below_drewN | apply below_drew1) | exact HB.out)); (case side2 => exact Kd.R_tight rfl HO676.out); rintro e w40 ⟨rfl, hy0, hb, hkp⟩; refine ⟨_, rfl, ?_⟩; have n0_ := Aside0.mk (Kd.R_reok rfl hy0 (fun k_ e_ => HO676.out.1 k_ e_)); have n1_ := Aside0.mk (hb); clear HO676; clear HB; have HO676 := n0_; have HB := n1_; clear n0_ n1_; (try clear hb); (try clear hkp); (try clear hy0)) | ((with_reducible refine gate_callee (f := 66) rfl ?_); refine goesL_ (some 61) rfl rfl Try.func66 kr_ rfl #[.slice Ao38 t689.length co38, .int .i64 a3] rfl (by (try simp only [List.map_toArray, List.map_cons, List.map_nil]); first | done | (rw [show t689.length = t674.length from (Kd.R_reads' HO676.out).1.symm] <;> rfl) | rfl | (simp only [List.length_drop, List.length_take]; rfl)) ?_; (with_reducible refine (impl_takeLots.calls kj5 _ _ t689 a3 t690 t691 _ ?side1 ?side2 A35.out).mono ?_); (case side1 => repeat (first | exact (Kd.R_reads' HO676.out).2.2 | (with_reducible refine Kd.C_alloc ?_ _) | (with_reducible refine Kd.C_drewN ?_ _) | (with_reducible refine Kd.C_drew ?_))); (case side2 => rw [show t689.length = t674.length from (Kd.R_reads' HO676.out).1.symm]; exact (Kd.R_reads' HO676.out).2.1); rintro e w41 ⟨v692, rfl, ho0, hb⟩; refine ⟨_, rfl, ?_⟩; have n0_ := Aside0.mk (Kd.R_elder' (pe_ HO676.out) (Kd.R_base ho0) hb); have n1_ := Aside0.mk (Kd.R_lower (Kd.R_new' ho0 (Kd.R_lt (pe_ HO676.out))) (below_size (bb_))); have n2_ := Aside0.mk (below_step (bb_) hb); clear HO676; clear HB; have HO676 := n0_; have HO693 := n1_; have HB := n2_; clear n0_ n1_ n2_; (try clear hb); (try clear hb2); (try clear hk); (try clear hi); (try clear ho0); obtain ⟨Ao42, co42, eo42⟩ := Kd.R_slice HO693.out; subst eo42) | ((with_reducible refine gate_callee (f := 69) rfl ?_); refine goesL_ (some 76) rfl rfl Try.func69 kr_ rfl #[.slice A0 l0.length c0, .int .i64 a1, .int .i64 a2, .slice Ao42 t690.length co42] rfl (bc_) ?_; (with_reducible refine (impl_withLots.calls _ _ l0 a1 a2 _ _ t690 t694 _ ?side1 ?side2 ?side3 ?side4 A36.out).mono ?_); (case side1 => repeat (first | exact (Kd.C_below HR0.out HB.out) | (with_reducible refine Kd.C_alloc ?_ _) | (with_reducible refine Kd.C_drewN ?_ _) | (with_reducible refine Kd.C_drew ?_))); (case side2 => exact HC0.out); (case side3 => repeat (first | exact (Kd.R_reads' HO693.out).2.2 | (with_reducible refine Kd.C_alloc ?_ _) | (with_reducible refine Kd.C_drewN ?_ _) | (with_reducible refine Kd.C_drew ?_))); (case side4 => exact (Kd.R_reads' HO693.out).2.1); rintro e w43 ⟨v695, rfl, ho0, hb⟩; refine ⟨_, rfl, ?_⟩; have n0_ := Aside0.mk (Kd.R_elder' (pe_ HO676.out) (Kd.R_base ho0) hb); have n1_ := Aside0.mk (Kd.R_elder' (pe_ HO693.out) (Kd.R_base ho0) hb); have n2_ := Aside0.mk (Kd.R_lower (Kd.R_new' (Kd.R_new' ho0 (Kd.R_lt (pe_ HO676.out))) (Kd.R_lt (pe_ HO693.out))) (below_size (bb_))); have n3_ := Aside0.mk (below_step (bb_) hb); clear HO676; clear HO693; clear HB; have HO676 := n0_; have HO693 := n1_; have HO696 := n2_; have HB := n3_; clear n0_ n1_ n2_ n3_; (try clear hb); (try clear hb2); (try clear hk); (try clear hi); (try clear ho0)))
       go_ret3
       exact ⟨_, er_, by (with_reducible repeat (first | apply Kd.R_alloc | apply Kd.R_drewN | apply Kd.R_drew)); exact Kd.R_mono HO696.out (fun _ hk => trivial), bb_⟩
      ·
       rw [if_neg c33] at H
       have c33b0 : (a4 == 2) = false := beq_eq_false_iff_ne.mpr c33
       have c33b1 : (a4 != 2) = true := bne_iff_ne.mpr c33
       by_cases c44 : a4 = 3
       ·
        rw [if_pos c44] at H
        have c44b0 : (a4 == 3) = true := beq_iff_eq.mpr c44
        have c44b1 : (a4 != 3) = false := bne_eq_false_iff_eq.mpr c44
        clear c44
        replace H := Option.bind_eq_some_iff.mp H
        obtain ⟨⟨t697, t698⟩, A450, H⟩ := H
        replace H : ((impl_withLots.f l0 a1 a2 t697).bind fun t701 => (some (t701, t698, 0))) = some (r1, r2, r3) := H
        have A45 := Aside0.mk A450
        clear A450
        replace H := Option.bind_eq_some_iff.mp H
        obtain ⟨t701, A460, H⟩ := H
        replace H : (some (t701, t698, 0)) = some (r1, r2, r3) := H
        have A46 := Aside0.mk A460
        clear A460
        simp only [Option.some.injEq, Prod.mk.injEq] at H
        obtain ⟨rfl, rfl, rfl⟩ := H
        go_wp2_with (first | ((with_reducible refine gate_callee (f := 47) rfl ?_); refine goesL_ (some 34) rfl rfl Try.func47 kr_ rfl #[.slice A0 l0.length c0, .int .i64 a1, .int .i64 a2] rfl (bc_) ?_; (with_reducible refine (impl_lotsOf.calls _ _ l0 a1 a2 t674 _ ?side1 ?side2 A16.out).mono ?_); (case side1 => repeat (first | exact (Kd.C_below HR0.out HB.out) | (with_reducible refine Kd.C_alloc ?_ _) | (with_reducible refine Kd.C_drewN ?_ _) | (with_reducible refine Kd.C_drew ?_))); (case side2 => exact HC0.out); rintro e w47 ⟨v675, rfl, ho0, hb⟩; refine ⟨_, rfl, ?_⟩; have n0_ := Aside0.mk (Kd.R_lower ho0 (below_size (bb_))); have n1_ := Aside0.mk (below_step (bb_) hb); clear HB; have HO676 := n0_; have HB := n1_; clear n0_ n1_; (try clear hb); (try clear hb2); (try clear hk); (try clear hi); (try clear ho0); obtain ⟨Ao48, co48, eo48⟩ := Kd.R_slice HO676.out; subst eo48) | ((with_reducible refine gate_callee (f := 46) rfl ?_); refine goesL_ (some 37) rfl rfl Try.func46 kr_ rfl #[.slice Ao48 t674.length co48] rfl (bc_) ?_; (with_reducible refine (impl_sumLots.calls kj5 _ _ t674 t677 t678 _ ?side1 ?side2 A17.out).mono ?_); (case side1 => repeat (first | exact (Kd.R_reads' HO676.out).2.2 | (with_reducible refine Kd.C_alloc ?_ _) | (with_reducible refine Kd.C_drewN ?_ _) | (with_reducible refine Kd.C_drew ?_))); (case side2 => exact (Kd.R_reads' HO676.out).2.1); rintro e w49 ⟨rfl, hb⟩; refine ⟨_, rfl, ?_⟩; have n0_ := Aside0.mk (Kd.R_below (pe_ HO676.out) hb); have n1_ := Aside0.mk (below_step (bb_) hb); clear HO676; clear HB; have HO676 := n0_; have HB := n1_; clear n0_ n1_; (try clear hb); (try clear hb2); (try clear hk); (try clear hi)) | ((with_reducible refine gate_callee (f := 68) rfl ?_); refine goesL_ (some 69) rfl rfl Try.func68 kr_ rfl #[.slice Ao48 t674.length co48, .int .i64 a3] rfl (bc_) ?_; (with_reducible refine (impl_meanLots.calls kj5 _ _ t674 a3 t697 t698 _ ?side1 ?side2 A45.out).mono ?_); (case side1 => repeat (first | exact (Kd.R_reads' HO676.out).2.2 | (with_reducible refine Kd.C_alloc ?_ _) | (with_reducible refine Kd.C_drewN ?_ _) | (with_reducible refine Kd.C_drew ?_))); (case side2 => exact (Kd.R_reads' HO676.out).2.1); rintro e w50 ⟨v699, rfl, ho0, hb⟩; refine ⟨_, rfl, ?_⟩; have n0_ := Aside0.mk (Kd.R_elder' (pe_ HO676.out) (Kd.R_base ho0) hb); have n1_ := Aside0.mk (Kd.R_lower (Kd.R_new' ho0 (Kd.R_lt (pe_ HO676.out))) (below_size (bb_))); have n2_ := Aside0.mk (below_step (bb_) hb); clear HO676; clear HB; have HO676 := n0_; have HO700 := n1_; have HB := n2_; clear n0_ n1_ n2_; (try clear hb); (try clear hb2); (try clear hk); (try clear hi); (try clear ho0); obtain ⟨Ao51, co51, eo51⟩ := Kd.R_slice HO700.out; subst eo51) | ((with_reducible refine gate_callee (f := 69) rfl ?_); refine goesL_ (some 76) rfl rfl Try.func69 kr_ rfl #[.slice A0 l0.length c0, .int .i64 a1, .int .i64 a2, .slice Ao51 t697.length co51] rfl (bc_) ?_; (with_reducible refine (impl_withLots.calls _ _ l0 a1 a2 _ _ t697 t701 _ ?side1 ?side2 ?side3 ?side4 A46.out).mono ?_); (case side1 => repeat (first | exact (Kd.C_below HR0.out HB.out) | (with_reducible refine Kd.C_alloc ?_ _) | (with_reducible refine Kd.C_drewN ?_ _) | (with_reducible refine Kd.C_drew ?_))); (case side2 => exact HC0.out); (case side3 => repeat (first | exact (Kd.R_reads' HO700.out).2.2 | (with_reducible refine Kd.C_alloc ?_ _) | (with_reducible refine Kd.C_drewN ?_ _) | (with_reducible refine Kd.C_drew ?_))); (case side4 => exact (Kd.R_reads' HO700.out).2.1); rintro e w52 ⟨v702, rfl, ho0, hb⟩; refine ⟨_, rfl, ?_⟩; have n0_ := Aside0.mk (Kd.R_elder' (pe_ HO676.out) (Kd.R_base ho0) hb); have n1_ := Aside0.mk (Kd.R_elder' (pe_ HO700.out) (Kd.R_base ho0) hb); have n2_ := Aside0.mk (Kd.R_lower (Kd.R_new' (Kd.R_new' ho0 (Kd.R_lt (pe_ HO676.out))) (Kd.R_lt (pe_ HO700.out))) (below_size (bb_))); have n3_ := Aside0.mk (below_step (bb_) hb); clear HO676; clear HO700; clear HB; have HO676 := n0_; have HO700 := n1_; have HO703 := n2_; have HB := n3_; clear n0_ n1_ n2_ n3_; (try clear hb); (try clear hb2); (try clear hk); (try clear hi); (try clear ho0)))
        go_ret3
        exact ⟨_, er_, by (with_reducible repeat (first | apply Kd.R_alloc | apply Kd.R_drewN | apply Kd.R_drew)); exact Kd.R_mono HO703.out (fun _ hk => trivial), bb_⟩
       ·
        rw [if_neg c44] at H
        have c44b0 : (a4 == 3) = false := beq_eq_false_iff_ne.mpr c44
        have c44b1 : (a4 != 3) = true := bne_iff_ne.mpr c44
        replace H := Option.bind_eq_some_iff.mp H
        obtain ⟨t704, A530, H⟩ := H
        replace H : (some (t704, 0, 0)) = some (r1, r2, r3) := H
        have A53 := Aside0.mk A530
        clear A530
        simp only [Option.some.injEq, Prod.mk.injEq] at H
        obtain ⟨rfl, rfl, rfl⟩ := H
        go_wp2_with (first | ((with_reducible refine gate_callee (f := 47) rfl ?_); refine goesL_ (some 34) rfl rfl Try.func47 kr_ rfl #[.slice A0 l0.length c0, .int .i64 a1, .int .i64 a2] rfl (bc_) ?_; (with_reducible refine (impl_lotsOf.calls _ _ l0 a1 a2 t674 _ ?side1 ?side2 A16.out).mono ?_); (case side1 => repeat (first | exact (Kd.C_below HR0.out HB.out) | (with_reducible refine Kd.C_alloc ?_ _) | (with_reducible refine Kd.C_drewN ?_ _) | (with_reducible refine Kd.C_drew ?_))); (case side2 => exact HC0.out); rintro e w54 ⟨v675, rfl, ho0, hb⟩; refine ⟨_, rfl, ?_⟩; have n0_ := Aside0.mk (Kd.R_lower ho0 (below_size (bb_))); have n1_ := Aside0.mk (below_step (bb_) hb); clear HB; have HO676 := n0_; have HB := n1_; clear n0_ n1_; (try clear hb); (try clear hb2); (try clear hk); (try clear hi); (try clear ho0); obtain ⟨Ao55, co55, eo55⟩ := Kd.R_slice HO676.out; subst eo55) | ((with_reducible refine gate_callee (f := 46) rfl ?_); refine goesL_ (some 37) rfl rfl Try.func46 kr_ rfl #[.slice Ao55 t674.length co55] rfl (bc_) ?_; (with_reducible refine (impl_sumLots.calls kj5 _ _ t674 t677 t678 _ ?side1 ?side2 A17.out).mono ?_); (case side1 => repeat (first | exact (Kd.R_reads' HO676.out).2.2 | (with_reducible refine Kd.C_alloc ?_ _) | (with_reducible refine Kd.C_drewN ?_ _) | (with_reducible refine Kd.C_drew ?_))); (case side2 => exact (Kd.R_reads' HO676.out).2.1); rintro e w56 ⟨rfl, hb⟩; refine ⟨_, rfl, ?_⟩; have n0_ := Aside0.mk (Kd.R_below (pe_ HO676.out) hb); have n1_ := Aside0.mk (below_step (bb_) hb); clear HO676; clear HB; have HO676 := n0_; have HB := n1_; clear n0_ n1_; (try clear hb); (try clear hb2); (try clear hk); (try clear hi)) | ((with_reducible refine gate_callee (f := 69) rfl ?_); refine goesL_ (some 76) rfl rfl Try.func69 kr_ rfl #[.slice A0 l0.length c0, .int .i64 a1, .int .i64 a2, .slice none 0 0] rfl (bc_) ?_; (refine (impl_withLots.calls _ _ l0 a1 a2 _ _ ([] : List (S37)) t704 _ ?side1 ?side2 ?side3 ?side4 A53.out).mono ?_); (case side1 => repeat (first | exact (Kd.C_below HR0.out HB.out) | (with_reducible refine Kd.C_alloc ?_ _) | (with_reducible refine Kd.C_drewN ?_ _) | (with_reducible refine Kd.C_drew ?_))); (case side2 => exact HC0.out); (case side3 => exact Kd.C_nil _ _); (case side4 => exact Nat.le_refl _); rintro e w57 ⟨v705, rfl, ho0, hb⟩; refine ⟨_, rfl, ?_⟩; have n0_ := Aside0.mk (Kd.R_elder' (pe_ HO676.out) (Kd.R_base ho0) hb); have n1_ := Aside0.mk (Kd.R_lower (Kd.R_new' ho0 (Kd.R_lt (pe_ HO676.out))) (below_size (bb_))); have n2_ := Aside0.mk (below_step (bb_) hb); clear HO676; clear HB; have HO676 := n0_; have HO706 := n1_; have HB := n2_; clear n0_ n1_ n2_; (try clear hb); (try clear hb2); (try clear hk); (try clear hi); (try clear ho0)))
        go_ret3
        exact ⟨_, er_, by (with_reducible repeat (first | apply Kd.R_alloc | apply Kd.R_drewN | apply Kd.R_drew)); exact Kd.R_mono HO706.out (fun _ hk => trivial), bb_⟩
def spec_l5DrawKey.f (k : Nat) (l0 : List Int) : Option ((List (S37)) × Int × Int) := (spec_l1New.f k l0).bind fun bt745 => ((spec_l5DrawLots.f k bt745.1 bt745.2.1 bt745.2.2).bind fun bt749 => ((spec_l1Below.f bt745.1 bt749.2.1 bt749.2.2 4).bind fun bt754 => ((spec_l1Below.f bt745.1 bt754.2.1 bt754.2.2 2).bind fun bt757 => (some (bt749.1, wrap64 (1 + bt754.1), wrap64 (1 + bt757.1))))))
set_option maxHeartbeats 8000000 in
set_option maxRecDepth 100000 in
theorem spec_l5DrawKey.calls (k : Nat) (A0 : Option Addr) (c0 : Nat) (l0 : List Int) (r1 : List (S37)) (r2 : Int) (r3 : Int) (w : World) (hr0 : Kd.C (Kd.int .u8) w A0 l0.length l0) (hc0 : l0.length ≤ c0) (h : spec_l5DrawKey.f k l0 = some (r1, r2, r3)) :
 Calls Try.prog 70 #[.slice A0 l0.length c0] w fun e w' => ∃ v0_ : Value, e = .returned (.tuple #[v0_, .int .i64 r2, .int .i64 r3]) ∧ Kd.R k37 37 w' w.heap.size (fun _ => True) v0_ r1 ∧ Below w.heap.size w w' := by
 have HR0 := Aside0.mk hr0
 have HC0 := Aside0.mk hc0
 clear hr0 hc0
 have HB := Aside0.mk (Below.refl w.heap.size w)
 have H : ((spec_l1New.f k l0).bind fun bt745 => ((spec_l5DrawLots.f k bt745.1 bt745.2.1 bt745.2.2).bind fun bt749 => ((spec_l1Below.f bt745.1 bt749.2.1 bt749.2.2 4).bind fun bt754 => ((spec_l1Below.f bt745.1 bt754.2.1 bt754.2.2 2).bind fun bt757 => (some (bt749.1, wrap64 (1 + bt754.1), wrap64 (1 + bt757.1))))))) = some (r1, r2, r3) := h
 clear h
 replace H := Option.bind_eq_some_iff.mp H
 obtain ⟨⟨t745, t746, t747⟩, A20, H⟩ := H
 replace H : ((spec_l5DrawLots.f k t745 t746 t747).bind fun bt749 => ((spec_l1Below.f t745 bt749.2.1 bt749.2.2 4).bind fun bt754 => ((spec_l1Below.f t745 bt754.2.1 bt754.2.2 2).bind fun bt757 => (some (bt749.1, wrap64 (1 + bt754.1), wrap64 (1 + bt757.1)))))) = some (r1, r2, r3) := H
 have A2 := Aside0.mk A20
 clear A20
 replace H := Option.bind_eq_some_iff.mp H
 obtain ⟨⟨t749, t752, t753⟩, A30, H⟩ := H
 replace H : ((spec_l1Below.f t745 t752 t753 4).bind fun bt754 => ((spec_l1Below.f t745 bt754.2.1 bt754.2.2 2).bind fun bt757 => (some (t749, wrap64 (1 + bt754.1), wrap64 (1 + bt757.1))))) = some (r1, r2, r3) := H
 have A3 := Aside0.mk A30
 clear A30
 replace H := Option.bind_eq_some_iff.mp H
 obtain ⟨⟨t754, t755, t756⟩, A40, H⟩ := H
 replace H : ((spec_l1Below.f t745 t755 t756 2).bind fun bt757 => (some (t749, wrap64 (1 + t754), wrap64 (1 + bt757.1)))) = some (r1, r2, r3) := H
 have A4 := Aside0.mk A40
 clear A40
 replace H := Option.bind_eq_some_iff.mp H
 obtain ⟨⟨t757, t758, t759⟩, A50, H⟩ := H
 replace H : (some (t749, wrap64 (1 + t754), wrap64 (1 + t757))) = some (r1, r2, r3) := H
 have A5 := Aside0.mk A50
 clear A50
 simp only [Option.some.injEq, Prod.mk.injEq] at H
 obtain ⟨rfl, rfl, rfl⟩ := H
 go_enter Try.func70, Try.ntmps70
 go_wp2_with (first | ((with_reducible refine gate_callee (f := 56) rfl ?_); refine goesL_ (some 8) rfl rfl Try.func56 kr_ rfl #[.slice A0 l0.length c0] rfl (bc_) ?_; (with_reducible refine (spec_l1New.calls k _ _ l0 t745 t746 t747 w _ ?side1 ?side2 ?side3 A2.out).mono ?_); (case side1 => repeat (first | (with_reducible first | exact HB.out | apply below_alloc | apply pw_below_drewN | apply below_drew1) | exact HB.out)); (case side2 => exact HR0.out); (case side3 => exact HC0.out); rintro e w6 ⟨g748, rfl, hi, hb, hb2⟩; refine ⟨_, rfl, ?_⟩; have n0_ := Aside0.mk (hb); have n1_ := Aside0.mk (hi); clear HB; have HB := n0_; have HI748 := n1_; clear n0_ n1_; (try clear hb); (try clear hb2); (try clear hk); (try clear hi)) | ((with_reducible refine gate_callee (f := 57) rfl ?_); refine goesL_ (some 10) rfl rfl Try.func57 kr_ rfl #[.pointer (some ⟨g748, 0, none⟩)] rfl (bc_) ?_; (with_reducible refine (spec_l5DrawLots.calls k g748 t745 t746 t747 t749 t752 t753 w _ ?side1 ?side2 A3.out).mono ?_); (case side1 => repeat (first | (with_reducible first | exact HI748.out | apply IsS91.alloc | apply IsS91.drewN | apply IsS91.drew | apply IsS91.set_1 | apply IsS91.set_2) | exact HI748.out)); (case side2 => repeat (first | (with_reducible first | exact HB.out | apply below_alloc | apply pw_below_drewN | apply below_drew1 | refine below_set ?_ (IsS91.ge HI748.out)) | exact HB.out)); rintro e w7 ⟨v750, rfl, ho0, hi, hb, hk⟩; refine ⟨_, rfl, ?_⟩; have n0_ := Aside0.mk (Kd.R_lower ho0 (below_size (by repeat (first | (with_reducible first | exact HB.out | apply below_alloc | apply pw_below_drewN | apply below_drew1 | refine below_set ?_ (IsS91.ge HI748.out)) | exact HB.out)))); have n1_ := Aside0.mk (hb); have n2_ := Aside0.mk (hi); clear HB; clear HI748; have HO751 := n0_; have HB := n1_; have HI748 := n2_; clear n0_ n1_ n2_; (try clear hb); (try clear hb2); (try clear hk); (try clear hi); (try clear ho0)) | ((with_reducible refine gate_callee (f := 58) rfl ?_); refine goesL_ (some 13) rfl rfl Try.func58 kr_ rfl #[.pointer (some ⟨g748, 0, none⟩), .int .i64 4] rfl (bc_) ?_; (with_reducible refine (spec_l1Below.calls g748 t745 t752 t753 4 t754 t755 t756 w _ ?side1 ?side2 A4.out).mono ?_); (case side1 => repeat (first | (with_reducible first | exact HI748.out | apply IsS91.alloc | apply IsS91.drewN | apply IsS91.drew | apply IsS91.set_1 | apply IsS91.set_2) | exact HI748.out)); (case side2 => repeat (first | (with_reducible first | exact HB.out | apply below_alloc | apply pw_below_drewN | apply below_drew1 | refine below_set ?_ (IsS91.ge HI748.out)) | exact HB.out)); rintro e w8 ⟨rfl, hi, hb, hk⟩; refine ⟨_, rfl, ?_⟩; have n0_ := Aside0.mk (Kd.R_mono (Kd.R_keep (IsS91.apart (show IsS91 w _ g748 t745 t752 t753 from by repeat (first | (with_reducible first | exact HI748.out | apply IsS91.alloc | apply IsS91.drewN | apply IsS91.drew | apply IsS91.set_1 | apply IsS91.set_2) | exact HI748.out)) (pe_ HO751.out) (by decide)) hk (fun _ h => h.2)) (fun _ h => h.1)); have n1_ := Aside0.mk (hb); have n2_ := Aside0.mk (hi); clear HO751; clear HB; clear HI748; have HO751 := n0_; have HB := n1_; have HI748 := n2_; clear n0_ n1_ n2_; (try clear hb); (try clear hb2); (try clear hk); (try clear hi)) | ((with_reducible refine gate_callee (f := 58) rfl ?_); refine goesL_ (some 16) rfl rfl Try.func58 kr_ rfl #[.pointer (some ⟨g748, 0, none⟩), .int .i64 2] rfl (bc_) ?_; (with_reducible refine (spec_l1Below.calls g748 t745 t755 t756 2 t757 t758 t759 w _ ?side1 ?side2 A5.out).mono ?_); (case side1 => repeat (first | (with_reducible first | exact HI748.out | apply IsS91.alloc | apply IsS91.drewN | apply IsS91.drew | apply IsS91.set_1 | apply IsS91.set_2) | exact HI748.out)); (case side2 => repeat (first | (with_reducible first | exact HB.out | apply below_alloc | apply pw_below_drewN | apply below_drew1 | refine below_set ?_ (IsS91.ge HI748.out)) | exact HB.out)); rintro e w9 ⟨rfl, hi, hb, hk⟩; refine ⟨_, rfl, ?_⟩; have n0_ := Aside0.mk (Kd.R_mono (Kd.R_keep (IsS91.apart (show IsS91 w _ g748 t745 t755 t756 from by repeat (first | (with_reducible first | exact HI748.out | apply IsS91.alloc | apply IsS91.drewN | apply IsS91.drew | apply IsS91.set_1 | apply IsS91.set_2) | exact HI748.out)) (pe_ HO751.out) (by decide)) hk (fun _ h => h.2)) (fun _ h => h.1)); have n1_ := Aside0.mk (hb); have n2_ := Aside0.mk (hi); clear HO751; clear HB; clear HI748; have HO751 := n0_; have HB := n1_; have HI748 := n2_; clear n0_ n1_ n2_; (try clear hb); (try clear hb2); (try clear hk); (try clear hi)))
 go_ret3
 exact ⟨_, er_, by (with_reducible repeat (first | apply Kd.R_alloc | apply Kd.R_drewN | apply Kd.R_drew)); exact HO751.out, by repeat (first | (with_reducible first | exact HB.out | apply below_alloc | apply pw_below_drewN | apply below_drew1 | refine below_set ?_ (IsS91.ge HI748.out)) | exact HB.out)⟩
end Go.Proofs.Ytomanpmffjkkgaa.P
namespace Go.Proofs.Ytomanpmffjkkgaa.P
open Go.RowKit Go.Proofs.YtomanpmffjkkgaaW.PrintWords Go.Proofs.YtomanpmffjkkgaaW.PrintLast Go.Proofs.YtomanpmffjkkgaaW.PrintMore
attribute [local go_sem] max2_int min2_int max_two min_two max_three min_three max_four min_four   -- for this text's walks alone
set_option linter.unusedVariables false
set_option linter.unusedSimpArgs false
def spec_DrawLotTake.j0 : Nat → List (S37) → Int → Int → Int → Int → List Int → Int → Int → Option ((List (S37)) × Int × Int × Int × Int)
 | 0, _, _, _, _, _, _, _, _ => none
 | k + 1, x7, x8, x9, x11, x12, x769000, x769001, x769002 => (spec_l1Once.f x769000 x769001 x769002 6).bind fun bt782 => (if bt782.1 = true then (some (x7, x8, x9, wrap64 (x11 + 1), x12)) else ((spec_l1Once.f x769000 bt782.2.1 bt782.2.2 6).bind fun bt785 => (if bt785.1 = true then (some (x7, x8, x9, x11, x12)) else ((spec_l1Below.f x769000 bt785.2.1 bt785.2.2 (wrap64 (x11 + 2))).bind fun bt788 => (some (x7, x8, x9, bt788.1, x12))))))
def spec_DrawLotTake.f (k : Nat) (l0 : List Int) : Option ((List (S37)) × Int × Int × Int × Int) := (spec_l5DrawKey.f k l0).bind fun bt760 => ((spec_l1New.f k l0).bind fun bt765 => ((spec_LotsQty.f k bt760.1 bt760.2.1 bt760.2.2).bind fun t769 => ((spec_l1Below.f bt765.1 bt765.2.1 bt765.2.2 3).bind fun bt770 => ((spec_l1Once.f bt765.1 bt770.2.1 bt770.2.2 20).bind fun bt773 => (if bt773.1 = true then ((spec_l1PickInt.f bt765.1 bt773.2.1 bt773.2.2 (([0, 4] : List Int))).bind fun bt779 => (spec_DrawLotTake.j0 k bt760.1 bt760.2.1 bt760.2.2 t769 bt779.1 bt765.1 bt779.2.1 bt779.2.2)) else (spec_DrawLotTake.j0 k bt760.1 bt760.2.1 bt760.2.2 t769 (wrap64 (1 + bt770.1)) bt765.1 bt773.2.1 bt773.2.2))))))
set_option maxHeartbeats 8000000 in
set_option maxRecDepth 100000 in
theorem spec_DrawLotTake.calls (k : Nat) (A0 : Option Addr) (c0 : Nat) (l0 : List Int) (r1 : List (S37)) (r2 : Int) (r3 : Int) (r4 : Int) (r5 : Int) (w : World) (hr0 : Kd.C (Kd.int .u8) w A0 l0.length l0) (hc0 : l0.length ≤ c0) (h : spec_DrawLotTake.f k l0 = some (r1, r2, r3, r4, r5)) :
 Calls Try.prog 35 #[.slice A0 l0.length c0] w fun e w' => ∃ v0_ : Value, e = .returned (.tuple #[v0_, .int .i64 r2, .int .i64 r3, .int .i64 r4, .int .i64 r5]) ∧ Kd.R k37 37 w' w.heap.size (fun _ => True) v0_ r1 ∧ Below w.heap.size w w' := by
 have HR0 := Aside0.mk hr0
 have HC0 := Aside0.mk hc0
 clear hr0 hc0
 have HB := Aside0.mk (Below.refl w.heap.size w)
 have H : ((spec_l5DrawKey.f k l0).bind fun bt760 => ((spec_l1New.f k l0).bind fun bt765 => ((spec_LotsQty.f k bt760.1 bt760.2.1 bt760.2.2).bind fun t769 => ((spec_l1Below.f bt765.1 bt765.2.1 bt765.2.2 3).bind fun bt770 => ((spec_l1Once.f bt765.1 bt770.2.1 bt770.2.2 20).bind fun bt773 => (if bt773.1 = true then ((spec_l1PickInt.f bt765.1 bt773.2.1 bt773.2.2 (([0, 4] : List Int))).bind fun bt779 => (spec_DrawLotTake.j0 k bt760.1 bt760.2.1 bt760.2.2 t769 bt779.1 bt765.1 bt779.2.1 bt779.2.2)) else (spec_DrawLotTake.j0 k bt760.1 bt760.2.1 bt760.2.2 t769 (wrap64 (1 + bt770.1)) bt765.1 bt773.2.1 bt773.2.2))))))) = some (r1, r2, r3, r4, r5) := h
 clear h
 replace H := Option.bind_eq_some_iff.mp H
 obtain ⟨⟨t760, t761, t762⟩, A20, H⟩ := H
 replace H : ((spec_l1New.f k l0).bind fun bt765 => ((spec_LotsQty.f k t760 t761 t762).bind fun t769 => ((spec_l1Below.f bt765.1 bt765.2.1 bt765.2.2 3).bind fun bt770 => ((spec_l1Once.f bt765.1 bt770.2.1 bt770.2.2 20).bind fun bt773 => (if bt773.1 = true then ((spec_l1PickInt.f bt765.1 bt773.2.1 bt773.2.2 (([0, 4] : List Int))).bind fun bt779 => (spec_DrawLotTake.j0 k t760 t761 t762 t769 bt779.1 bt765.1 bt779.2.1 bt779.2.2)) else (spec_DrawLotTake.j0 k t760 t761 t762 t769 (wrap64 (1 + bt770.1)) bt765.1 bt773.2.1 bt773.2.2)))))) = some (r1, r2, r3, r4, r5) := H
 have A2 := Aside0.mk A20
 clear A20
 replace H := Option.bind_eq_some_iff.mp H
 obtain ⟨⟨t765, t766, t767⟩, A30, H⟩ := H
 replace H : ((spec_LotsQty.f k t760 t761 t762).bind fun t769 => ((spec_l1Below.f t765 t766 t767 3).bind fun bt770 => ((spec_l1Once.f t765 bt770.2.1 bt770.2.2 20).bind fun bt773 => (if bt773.1 = true then ((spec_l1PickInt.f t765 bt773.2.1 bt773.2.2 (([0, 4] : List Int))).bind fun bt779 => (spec_DrawLotTake.j0 k t760 t761 t762 t769 bt779.1 t765 bt779.2.1 bt779.2.2)) else (spec_DrawLotTake.j0 k t760 t761 t762 t769 (wrap64 (1 + bt770.1)) t765 bt773.2.1 bt773.2.2))))) = some (r1, r2, r3, r4, r5) := H
 have A3 := Aside0.mk A30
 clear A30
 replace H := Option.bind_eq_some_iff.mp H
 obtain ⟨t769, A40, H⟩ := H
 replace H : ((spec_l1Below.f t765 t766 t767 3).bind fun bt770 => ((spec_l1Once.f t765 bt770.2.1 bt770.2.2 20).bind fun bt773 => (if bt773.1 = true then ((spec_l1PickInt.f t765 bt773.2.1 bt773.2.2 (([0, 4] : List Int))).bind fun bt779 => (spec_DrawLotTake.j0 k t760 t761 t762 t769 bt779.1 t765 bt779.2.1 bt779.2.2)) else (spec_DrawLotTake.j0 k t760 t761 t762 t769 (wrap64 (1 + bt770.1)) t765 bt773.2.1 bt773.2.2)))) = some (r1, r2, r3, r4, r5) := H
 have A4 := Aside0.mk A40
 clear A40
 replace H := Option.bind_eq_some_iff.mp H
 obtain ⟨⟨t770, t771, t772⟩, A50, H⟩ := H
 replace H : ((spec_l1Once.f t765 t771 t772 20).bind fun bt773 => (if bt773.1 = true then ((spec_l1PickInt.f t765 bt773.2.1 bt773.2.2 (([0, 4] : List Int))).bind fun bt779 => (spec_DrawLotTake.j0 k t760 t761 t762 t769 bt779.1 t765 bt779.2.1 bt779.2.2)) else (spec_DrawLotTake.j0 k t760 t761 t762 t769 (wrap64 (1 + t770)) t765 bt773.2.1 bt773.2.2))) = some (r1, r2, r3, r4, r5) := H
 have A5 := Aside0.mk A50
 clear A50
 replace H := Option.bind_eq_some_iff.mp H
 obtain ⟨⟨t773, t774, t775⟩, A60, H⟩ := H
 replace H : (if t773 = true then ((spec_l1PickInt.f t765 t774 t775 (([0, 4] : List Int))).bind fun bt779 => (spec_DrawLotTake.j0 k t760 t761 t762 t769 bt779.1 t765 bt779.2.1 bt779.2.2)) else (spec_DrawLotTake.j0 k t760 t761 t762 t769 (wrap64 (1 + t770)) t765 t774 t775)) = some (r1, r2, r3, r4, r5) := H
 have A6 := Aside0.mk A60
 clear A60
 have HC7 := Aside0.mk H
 clear H
 go_enter Try.func35, Try.ntmps35
 go_upto_if 29 with (first | ((with_reducible refine gate_callee (f := 70) rfl ?_); refine goesL_ (some 15) rfl rfl Try.func70 kr_ rfl #[.slice A0 l0.length c0] rfl (bc_) ?_; (with_reducible refine (spec_l5DrawKey.calls k _ _ l0 t760 t761 t762 _ ?side1 ?side2 A2.out).mono ?_); (case side1 => repeat (first | exact HR0.out | (with_reducible refine Kd.C_alloc ?_ _) | (with_reducible refine Kd.C_drewN ?_ _) | (with_reducible refine Kd.C_drew ?_))); (case side2 => exact HC0.out); rintro e w8 ⟨v763, rfl, ho0, hb⟩; refine ⟨_, rfl, ?_⟩; have n0_ := Aside0.mk (Kd.R_lower ho0 (below_size (bb_))); have n1_ := Aside0.mk (below_step (bb_) hb); clear HB; have HO764 := n0_; have HB := n1_; clear n0_ n1_; (try clear hb); (try clear hb2); (try clear hk); (try clear hi); (try clear ho0)) | ((with_reducible refine gate_callee (f := 56) rfl ?_); refine goesL_ (some 20) rfl rfl Try.func56 kr_ rfl #[.slice A0 l0.length c0] rfl (bc_) ?_; (with_reducible refine (spec_l1New.calls k _ _ l0 t765 t766 t767 w _ ?side1 ?side2 ?side3 A3.out).mono ?_); (case side1 => repeat (first | (with_reducible first | exact HB.out | apply below_alloc | apply pw_below_drewN | apply below_drew1) | exact HB.out)); (case side2 => exact HR0.out); (case side3 => exact HC0.out); rintro e w9 ⟨g768, rfl, hi, hb, hb2⟩; refine ⟨_, rfl, ?_⟩; have n0_ := Aside0.mk (Kd.R_below (pe_ HO764.out) hb2); have n1_ := Aside0.mk (hb); have n2_ := Aside0.mk (hi); clear HO764; clear HB; have HO764 := n0_; have HB := n1_; have HI768 := n2_; clear n0_ n1_ n2_; (try clear hb); (try clear hb2); (try clear hk); (try clear hi); obtain ⟨Ao10, co10, eo10⟩ := Kd.R_slice HO764.out; subst eo10) | ((with_reducible refine gate_callee (f := 19) rfl ?_); refine goesL_ (some 24) rfl rfl Try.func19 kr_ rfl #[.slice Ao10 t760.length co10, .int .i64 t761, .int .i64 t762] rfl (bc_) ?_; (with_reducible refine (spec_LotsQty.calls k _ _ t760 t761 t762 t769 _ ?side1 ?side2 A4.out).mono ?_); (case side1 => repeat (first | exact (Kd.R_reads' HO764.out).2.2 | (with_reducible refine Kd.C_alloc ?_ _) | (with_reducible refine Kd.C_drewN ?_ _) | (with_reducible refine Kd.C_drew ?_))); (case side2 => exact (Kd.R_reads' HO764.out).2.1); rintro e w11 ⟨rfl, hb⟩; refine ⟨_, rfl, ?_⟩; have n0_ := Aside0.mk (Kd.R_below (pe_ HO764.out) hb); have n1_ := Aside0.mk (IsS91.below (by repeat (first | (with_reducible first | exact HI768.out | apply IsS91.alloc | apply IsS91.drewN | apply IsS91.drew | apply IsS91.set_1 | apply IsS91.set_2) | exact HI768.out)) hb); have n2_ := Aside0.mk (below_step (by repeat (first | (with_reducible first | exact HB.out | apply below_alloc | apply pw_below_drewN | apply below_drew1 | refine below_set ?_ (IsS91.ge HI768.out)) | exact HB.out)) hb); clear HO764; clear HI768; clear HB; have HO764 := n0_; have HI768 := n1_; have HB := n2_; clear n0_ n1_ n2_; (try clear hb); (try clear hb2); (try clear hk); (try clear hi)) | ((with_reducible refine gate_callee (f := 58) rfl ?_); refine goesL_ (some 26) rfl rfl Try.func58 kr_ rfl #[.pointer (some ⟨g768, 0, none⟩), .int .i64 3] rfl (bc_) ?_; (with_reducible refine (spec_l1Below.calls g768 t765 t766 t767 3 t770 t771 t772 w _ ?side1 ?side2 A5.out).mono ?_); (case side1 => repeat (first | (with_reducible first | exact HI768.out | apply IsS91.alloc | apply IsS91.drewN | apply IsS91.drew | apply IsS91.set_1 | apply IsS91.set_2) | exact HI768.out)); (case side2 => repeat (first | (with_reducible first | exact HB.out | apply below_alloc | apply pw_below_drewN | apply below_drew1 | refine below_set ?_ (IsS91.ge HI768.out)) | exact HB.out)); rintro e w12 ⟨rfl, hi, hb, hk⟩; refine ⟨_, rfl, ?_⟩; have n0_ := Aside0.mk (Kd.R_mono (Kd.R_keep (IsS91.apart (show IsS91 w _ g768 t765 t766 t767 from by repeat (first | (with_reducible first | exact HI768.out | apply IsS91.alloc | apply IsS91.drewN | apply IsS91.drew | apply IsS91.set_1 | apply IsS91.set_2) | exact HI768.out)) (pe_ HO764.out) (by decide)) hk (fun _ h => h.2)) (fun _ h => h.1)); have n1_ := Aside0.mk (hb); have n2_ := Aside0.mk (hi); clear HO764; clear HB; clear HI768; have HO764 := n0_; have HB := n1_; have HI768 := n2_; clear n0_ n1_ n2_; (try clear hb); (try clear hb2); (try clear hk); (try clear hi)) | ((with_reducible refine gate_callee (f := 71) rfl ?_); refine goesL_ (some 29) rfl rfl Try.func71 kr_ rfl #[.pointer (some ⟨g768, 0, none⟩), .int .i64 20] rfl (bc_) ?_; (with_reducible refine (spec_l1Once.calls g768 t765 t771 t772 20 t773 t774 t775 w _ ?side1 ?side2 A6.out).mono ?_); (case side1 => repeat (first | (with_reducible first | exact HI768.out | apply IsS91.alloc | apply IsS91.drewN | apply IsS91.drew | apply IsS91.set_1 | apply IsS91.set_2) | exact HI768.out)); (case side2 => repeat (first | (with_reducible first | exact HB.out | apply below_alloc | apply pw_below_drewN | apply below_drew1 | refine below_set ?_ (IsS91.ge HI768.out)) | exact HB.out)); rintro e w13 ⟨rfl, hi, hb, hk⟩; refine ⟨_, rfl, ?_⟩; have n0_ := Aside0.mk (Kd.R_mono (Kd.R_keep (IsS91.apart (show IsS91 w _ g768 t765 t771 t772 from by repeat (first | (with_reducible first | exact HI768.out | apply IsS91.alloc | apply IsS91.drewN | apply IsS91.drew | apply IsS91.set_1 | apply IsS91.set_2) | exact HI768.out)) (pe_ HO764.out) (by decide)) hk (fun _ h => h.2)) (fun _ h => h.1)); have n1_ := Aside0.mk (hb); have n2_ := Aside0.mk (hi); clear HO764; clear HB; clear HI768; have HO764 := n0_; have HB := n1_; have HI768 := n2_; clear n0_ n1_ n2_; (try clear hb); (try clear hb2); (try clear hk); (try clear hi)))
 (try simp only [Act.put, List.setIfInBounds_toArray, List.set_cons_zero, List.set_cons_succ])
 go_cut [12] (fun v12 wc => ∃ (kq : Nat) (x12_6 : Int) (x769001_6 : Int) (x769002_6 : Int), v12 = .int .i64 x12_6 ∧ Aside0 (spec_DrawLotTake.j0 kq t760 t761 t762 t769 x12_6 t765 x769001_6 x769002_6 = some (r1, r2, r3, r4, r5)) ∧ Aside0 (kq ≤ k) ∧ Aside0 (Kd.R k37 37 wc w.heap.size (fun _ => True) (.slice Ao10 t760.length co10) t760) ∧ Aside0 (IsS91 w wc g768 t765 x769001_6 x769002_6) ∧ Aside0 (Below w.heap.size w wc))
 case first =>
  have H := HC7.out
  clear HC7
  by_cases c14 : t773 = true
  ·
   subst c14
   have H1 : ((spec_l1PickInt.f t765 t774 t775 (([0, 4] : List Int))).bind fun bt779 => (spec_DrawLotTake.j0 k t760 t761 t762 t769 bt779.1 t765 bt779.2.1 bt779.2.2)) = some (r1, r2, r3, r4, r5) := by rw [if_pos rfl] at H; exact H
   clear H
   have H := H1
   clear H1
   obtain ⟨y776, hy776⟩ : ∃ y_ : List Int, y_ = (([0, 4] : List Int)) := ⟨_, rfl⟩
   replace H : ((spec_l1PickInt.f t765 t774 t775 y776).bind fun bt779 => (spec_DrawLotTake.j0 k t760 t761 t762 t769 bt779.1 t765 bt779.2.1 bt779.2.2)) = some (r1, r2, r3, r4, r5) := by first | (rw [hy776]; with_reducible exact H) | (have H2_ := (Option.bind_some _ _).symm.trans H; rw [hy776]; with_reducible exact H2_) | (have H2_ := (Option.bind_some _ _).symm.trans H; with_reducible exact H2_) | with_reducible exact H | (rw [hy776]; exact H) | exact H
   have Ny776 := Aside0.mk hy776
   clear hy776
   replace H := Option.bind_eq_some_iff.mp H
   obtain ⟨⟨t779, t780, t781⟩, A150, H⟩ := H
   replace H : (spec_DrawLotTake.j0 k t760 t761 t762 t769 t779 t765 t780 t781) = some (r1, r2, r3, r4, r5) := H
   have A15 := Aside0.mk A150
   clear A150
   have H' := Aside0.mk H
   clear H
   go_wp2_with (first | ((with_reducible refine gate_dst (N := 31) rfl ?_); refine Kd.R_lit (Kd.int .i64) _ 3 ?hg (N := 31) ?hd (xs := ([0, 4] : List Int)) (inner := [.int .i64 0, .int .i64 4]) (ok := fun _ => True) (okp := fun _ => True) ?hr ?hp (fun _ hk => hk) trivial (Below.refl _ _) (Nat.le_refl _) (by simp) ?_; (case hd => rfl); (case hg => rfl); (case hr => first | (go_simp; done) | (go_simp; rfl)); (case hp => exact (Reps.one (show Kd.M (Kd.int .i64) _ _ _ 0 [.int .i64 0] from rfl) (Reps.one (show Kd.M (Kd.int .i64) _ _ _ 4 [.int .i64 4] from rfl) (Reps.none _ _)))); intro v777 w16 ho17 hb hg_ hnew_; clear hg_ hnew_; (first | rw [← Ny776.out] at ho17 | (simp only [Int.reduceToNat] at ho17; rw [← Ny776.out] at ho17)); have n0_ := Aside0.mk (Kd.R_below (pe_ HO764.out) hb); have n1_ := Aside0.mk (Kd.R_lower ho17 (below_size (by repeat (first | (with_reducible first | exact HB.out | apply below_alloc | apply pw_below_drewN | apply below_drew1 | refine below_set ?_ (IsS91.ge HI768.out)) | exact HB.out)))); have n2_ := Aside0.mk (IsS91.below (by repeat (first | (with_reducible first | exact HI768.out | apply IsS91.alloc | apply IsS91.drewN | apply IsS91.drew | apply IsS91.set_1 | apply IsS91.set_2) | exact HI768.out)) hb); have n3_ := Aside0.mk (below_step (by repeat (first | (with_reducible first | exact HB.out | apply below_alloc | apply pw_below_drewN | apply below_drew1 | refine below_set ?_ (IsS91.ge HI768.out)) | exact HB.out)) hb); clear HO764; clear HI768; clear HB; have HO764 := n0_; have HO778 := n1_; have HI768 := n2_; have HB := n3_; clear n0_ n1_ n2_ n3_; clear hb ho17; obtain ⟨Ao18, co18, eo18⟩ := Kd.R_slice HO778.out; subst eo18) | ((with_reducible refine gate_callee (f := 59) rfl ?_); refine goesL_ (some 32) rfl rfl Try.func59 kr_ rfl #[.pointer (some ⟨g768, 0, none⟩), .slice Ao18 y776.length co18] rfl (bc_) ?_; (with_reducible refine (spec_l1PickInt.calls g768 t765 t774 t775 _ _ y776 t779 t780 t781 w _ ?side1 ?side2 ?side3 ?side4 ?side5 A15.out).mono ?_); (case side1 => repeat (first | (with_reducible first | exact HI768.out | apply IsS91.alloc | apply IsS91.drewN | apply IsS91.drew | apply IsS91.set_1 | apply IsS91.set_2) | exact HI768.out)); (case side2 => repeat (first | (with_reducible first | exact HB.out | apply below_alloc | apply pw_below_drewN | apply below_drew1 | refine below_set ?_ (IsS91.ge HI768.out)) | exact HB.out)); (case side3 => repeat (first | exact (Kd.R_reads' HO778.out).2.2 | (with_reducible refine Kd.C_alloc ?_ _) | (with_reducible refine Kd.C_drewN ?_ _) | (with_reducible refine Kd.C_drew ?_))); (case side4 => exact (Kd.R_reads' HO778.out).2.1); (case side5 => exact far_slice (IsS91.own_ne HI768.out HO778.out (by decide))); rintro e w19 ⟨rfl, hi, hb, hk⟩; refine ⟨_, rfl, ?_⟩; have n0_ := Aside0.mk (Kd.R_mono (Kd.R_keep (IsS91.apart (show IsS91 w _ g768 t765 t774 t775 from by repeat (first | (with_reducible first | exact HI768.out | apply IsS91.alloc | apply IsS91.drewN | apply IsS91.drew | apply IsS91.set_1 | apply IsS91.set_2) | exact HI768.out)) (pe_ HO764.out) (by decide)) hk (fun _ h => h.2)) (fun _ h => h.1)); have n1_ := Aside0.mk (Kd.R_mono (Kd.R_keep (IsS91.apart (show IsS91 w _ g768 t765 t774 t775 from by repeat (first | (with_reducible first | exact HI768.out | apply IsS91.alloc | apply IsS91.drewN | apply IsS91.drew | apply IsS91.set_1 | apply IsS91.set_2) | exact HI768.out)) (pe_ HO778.out) (by decide)) hk (fun _ h => h.2)) (fun _ h => h.1)); have n2_ := Aside0.mk (hb); have n3_ := Aside0.mk (hi); clear HO764; clear HO778; clear HB; clear HI768; have HO764 := n0_; have HO778 := n1_; have HB := n2_; have HI768 := n3_; clear n0_ n1_ n2_ n3_; (try clear hb); (try clear hb2); (try clear hk); (try clear hi)))
   go_meet
   case rel => exact ⟨_, (t779), (t780), (t781), (by first | rfl | (simp; done) | (simp [*]; done)), H', ⟨by first | omega | exact Nat.le_refl _⟩, ⟨by (with_reducible repeat (first | apply Kd.R_alloc | apply Kd.R_drewN | apply Kd.R_drew)); exact HO764.out⟩, ⟨by repeat (first | (with_reducible first | exact HI768.out | apply IsS91.alloc | apply IsS91.drewN | apply IsS91.drew | apply IsS91.set_1 | apply IsS91.set_2) | exact HI768.out)⟩, ⟨by repeat (first | (with_reducible first | exact HB.out | apply below_alloc | apply pw_below_drewN | apply below_drew1 | refine below_set ?_ (IsS91.ge HI768.out)) | exact HB.out)⟩⟩
  ·
   replace c14 := Bool.eq_false_iff.mpr c14
   subst c14
   have H1 : (spec_DrawLotTake.j0 k t760 t761 t762 t769 (wrap64 (1 + t770)) t765 t774 t775) = some (r1, r2, r3, r4, r5) := by rw [if_neg (show ¬ (false = true) by decide)] at H; exact H
   clear H
   have H := H1
   clear H1
   have H' := Aside0.mk H
   clear H
   go_wp2
   go_meet
   case rel => exact ⟨_, (wrap64 (1 + t770)), (t774), (t775), (by first | rfl | (simp; done) | (simp [*]; done)), H', ⟨by first | omega | exact Nat.le_refl _⟩, ⟨by (with_reducible repeat (first | apply Kd.R_alloc | apply Kd.R_drewN | apply Kd.R_drew)); exact HO764.out⟩, ⟨by repeat (first | (with_reducible first | exact HI768.out | apply IsS91.alloc | apply IsS91.drewN | apply IsS91.drew | apply IsS91.set_1 | apply IsS91.set_2) | exact HI768.out)⟩, ⟨by repeat (first | (with_reducible first | exact HB.out | apply below_alloc | apply pw_below_drewN | apply below_drew1 | refine below_set ?_ (IsS91.ge HI768.out)) | exact HB.out)⟩⟩
 case rest =>
  clear HC7
  try clear c1
  try clear p2
  try clear c3
  try clear c5
  try clear p6
  try clear c7
  try clear c14
  try clear c19
  obtain ⟨kq, x12_6, x769001_6, x769002_6, rfl, HA, HJ6, HO_7, HI768, HB⟩ := hcut
  cases kq with
  | zero => exact absurd HA.out (by simp [spec_DrawLotTake.j0])
  | succ kj6 =>
   have H := HA.out
   clear HA
   simp only [spec_DrawLotTake.j0] at H
   replace H := Option.bind_eq_some_iff.mp H
   obtain ⟨⟨t782, t783, t784⟩, A200, H⟩ := H
   replace H : (if t782 = true then (some (t760, t761, t762, wrap64 (t769 + 1), x12_6)) else ((spec_l1Once.f t765 t783 t784 6).bind fun bt785 => (if bt785.1 = true then (some (t760, t761, t762, t769, x12_6)) else ((spec_l1Below.f t765 bt785.2.1 bt785.2.2 (wrap64 (t769 + 2))).bind fun bt788 => (some (t760, t761, t762, bt788.1, x12_6)))))) = some (r1, r2, r3, r4, r5) := H
   have A20 := Aside0.mk A200
   clear A200
   by_cases c21 : t782 = true
   ·
    subst c21
    have H1 : (some (t760, t761, t762, wrap64 (t769 + 1), x12_6)) = some (r1, r2, r3, r4, r5) := by rw [if_pos rfl] at H; exact H
    clear H
    have H := H1
    clear H1
    simp only [Option.some.injEq, Prod.mk.injEq] at H
    obtain ⟨rfl, rfl, rfl, rfl, rfl⟩ := H
    go_wp2_with (first | ((with_reducible refine gate_callee (f := 71) rfl ?_); refine goesL_ (some 34) rfl rfl Try.func71 kr_ rfl #[.pointer (some ⟨g768, 0, none⟩), .int .i64 6] rfl (bc_) ?_; (with_reducible refine (spec_l1Once.calls g768 t765 x769001_6 x769002_6 6 true t783 t784 w _ ?side1 ?side2 A20.out).mono ?_); (case side1 => repeat (first | (with_reducible first | exact HI768.out | apply IsS91.alloc | apply IsS91.drewN | apply IsS91.drew | apply IsS91.set_1 | apply IsS91.set_2) | exact HI768.out)); (case side2 => repeat (first | (with_reducible first | exact HB.out | apply below_alloc | apply pw_below_drewN | apply below_drew1 | refine below_set ?_ (IsS91.ge HI768.out)) | exact HB.out)); rintro e w22 ⟨rfl, hi, hb, hk⟩; refine ⟨_, rfl, ?_⟩; have n0_ := Aside0.mk (Kd.R_mono (Kd.R_keep (IsS91.apart (show IsS91 w _ g768 t765 x769001_6 x769002_6 from by repeat (first | (with_reducible first | exact HI768.out | apply IsS91.alloc | apply IsS91.drewN | apply IsS91.drew | apply IsS91.set_1 | apply IsS91.set_2) | exact HI768.out)) (pe_ HO_7.out) (by decide)) hk (fun _ h => h.2)) (fun _ h => h.1)); have n1_ := Aside0.mk (hb); have n2_ := Aside0.mk (hi); clear HO_7; clear HB; clear HI768; have HO_7 := n0_; have HB := n1_; have HI768 := n2_; clear n0_ n1_ n2_; (try clear hb); (try clear hb2); (try clear hk); (try clear hi)))
    refine bodyPost_ret (results_list (rs := [.tmp 2, .tmp 3, .tmp 4, .tmp 5, .tmp 6]) rfl (by simp) (.tmp (.tmp (.tmp (.tmp (.tmp .nil)))))) rfl ?_
    exact ⟨_, er_, by (with_reducible repeat (first | apply Kd.R_alloc | apply Kd.R_drewN | apply Kd.R_drew)); exact HO_7.out, by repeat (first | (with_reducible first | exact HB.out | apply below_alloc | apply pw_below_drewN | apply below_drew1 | refine below_set ?_ (IsS91.ge HI768.out)) | exact HB.out)⟩
   ·
    replace c21 := Bool.eq_false_iff.mpr c21
    subst c21
    have H1 : ((spec_l1Once.f t765 t783 t784 6).bind fun bt785 => (if bt785.1 = true then (some (t760, t761, t762, t769, x12_6)) else ((spec_l1Below.f t765 bt785.2.1 bt785.2.2 (wrap64 (t769 + 2))).bind fun bt788 => (some (t760, t761, t762, bt788.1, x12_6))))) = some (r1, r2, r3, r4, r5) := by rw [if_neg (show ¬ (false = true) by decide)] at H; exact H
    clear H
    have H := H1
    clear H1
    replace H := Option.bind_eq_some_iff.mp H
    obtain ⟨⟨t785, t786, t787⟩, A230, H⟩ := H
    replace H : (if t785 = true then (some (t760, t761, t762, t769, x12_6)) else ((spec_l1Below.f t765 t786 t787 (wrap64 (t769 + 2))).bind fun bt788 => (some (t760, t761, t762, bt788.1, x12_6)))) = some (r1, r2, r3, r4, r5) := H
    have A23 := Aside0.mk A230
    clear A230
    by_cases c24 : t785 = true
    ·
     subst c24
     have H1 : (some (t760, t761, t762, t769, x12_6)) = some (r1, r2, r3, r4, r5) := by rw [if_pos rfl] at H; exact H
     clear H
     have H := H1
     clear H1
     simp only [Option.some.injEq, Prod.mk.injEq] at H
     obtain ⟨rfl, rfl, rfl, rfl, rfl⟩ := H
     go_wp2_with (first | ((with_reducible refine gate_callee (f := 71) rfl ?_); refine goesL_ (some 34) rfl rfl Try.func71 kr_ rfl #[.pointer (some ⟨g768, 0, none⟩), .int .i64 6] rfl (bc_) ?_; (with_reducible refine (spec_l1Once.calls g768 t765 x769001_6 x769002_6 6 false t783 t784 w _ ?side1 ?side2 A20.out).mono ?_); (case side1 => repeat (first | (with_reducible first | exact HI768.out | apply IsS91.alloc | apply IsS91.drewN | apply IsS91.drew | apply IsS91.set_1 | apply IsS91.set_2) | exact HI768.out)); (case side2 => repeat (first | (with_reducible first | exact HB.out | apply below_alloc | apply pw_below_drewN | apply below_drew1 | refine below_set ?_ (IsS91.ge HI768.out)) | exact HB.out)); rintro e w25 ⟨rfl, hi, hb, hk⟩; refine ⟨_, rfl, ?_⟩; have n0_ := Aside0.mk (Kd.R_mono (Kd.R_keep (IsS91.apart (show IsS91 w _ g768 t765 x769001_6 x769002_6 from by repeat (first | (with_reducible first | exact HI768.out | apply IsS91.alloc | apply IsS91.drewN | apply IsS91.drew | apply IsS91.set_1 | apply IsS91.set_2) | exact HI768.out)) (pe_ HO_7.out) (by decide)) hk (fun _ h => h.2)) (fun _ h => h.1)); have n1_ := Aside0.mk (hb); have n2_ := Aside0.mk (hi); clear HO_7; clear HB; clear HI768; have HO_7 := n0_; have HB := n1_; have HI768 := n2_; clear n0_ n1_ n2_; (try clear hb); (try clear hb2); (try clear hk); (try clear hi)) | ((with_reducible refine gate_callee (f := 71) rfl ?_); refine goesL_ (some 38) rfl rfl Try.func71 kr_ rfl #[.pointer (some ⟨g768, 0, none⟩), .int .i64 6] rfl (bc_) ?_; (with_reducible refine (spec_l1Once.calls g768 t765 t783 t784 6 true t786 t787 w _ ?side1 ?side2 A23.out).mono ?_); (case side1 => repeat (first | (with_reducible first | exact HI768.out | apply IsS91.alloc | apply IsS91.drewN | apply IsS91.drew | apply IsS91.set_1 | apply IsS91.set_2) | exact HI768.out)); (case side2 => repeat (first | (with_reducible first | exact HB.out | apply below_alloc | apply pw_below_drewN | apply below_drew1 | refine below_set ?_ (IsS91.ge HI768.out)) | exact HB.out)); rintro e w26 ⟨rfl, hi, hb, hk⟩; refine ⟨_, rfl, ?_⟩; have n0_ := Aside0.mk (Kd.R_mono (Kd.R_keep (IsS91.apart (show IsS91 w _ g768 t765 t783 t784 from by repeat (first | (with_reducible first | exact HI768.out | apply IsS91.alloc | apply IsS91.drewN | apply IsS91.drew | apply IsS91.set_1 | apply IsS91.set_2) | exact HI768.out)) (pe_ HO_7.out) (by decide)) hk (fun _ h => h.2)) (fun _ h => h.1)); have n1_ := Aside0.mk (hb); have n2_ := Aside0.mk (hi); clear HO_7; clear HB; clear HI768; have HO_7 := n0_; have HB := n1_; have HI768 := n2_; clear n0_ n1_ n2_; (try clear hb); (try clear hb2); (try clear hk); (try clear hi)))
     refine bodyPost_ret (results_list (rs := [.tmp 2, .tmp 3, .tmp 4, .tmp 5, .tmp 6]) rfl (by simp) (.tmp (.tmp (.tmp (.tmp (.tmp .nil)))))) rfl ?_
     exact ⟨_, er_, by (with_reducible repeat (first | apply Kd.R_alloc | apply Kd.R_drewN | apply Kd.R_drew)); exact HO_7.out, by repeat (first | (with_reducible first | exact HB.out | apply below_alloc | apply pw_below_drewN | apply below_drew1 | refine below_set ?_ (IsS91.ge HI768.out)) | exact HB.out)⟩
    ·
     replace c24 := Bool.eq_false_iff.mpr c24
     subst c24
     have H1 : ((spec_l1Below.f t765 t786 t787 (wrap64 (t769 + 2))).bind fun bt788 => (some (t760, t761, t762, bt788.1, x12_6))) = some (r1, r2, r3, r4, r5) := by rw [if_neg (show ¬ (false = true) by decide)] at H; exact H
     clear H
     have H := H1
     clear H1
     replace H := Option.bind_eq_some_iff.mp H
     obtain ⟨⟨t788, t789, t790⟩, A270, H⟩ := H
     replace H : (some (t760, t761, t762, t788, x12_6)) = some (r1, r2, r3, r4, r5) := H
     have A27 := Aside0.mk A270
     clear A270
     simp only [Option.some.injEq, Prod.mk.injEq] at H
     obtain ⟨rfl, rfl, rfl, rfl, rfl⟩ := H
     go_wp2_with (first | ((with_reducible refine gate_callee (f := 71) rfl ?_); refine goesL_ (some 34) rfl rfl Try.func71 kr_ rfl #[.pointer (some ⟨g768, 0, none⟩), .int .i64 6] rfl (bc_) ?_; (with_reducible refine (spec_l1Once.calls g768 t765 x769001_6 x769002_6 6 false t783 t784 w _ ?side1 ?side2 A20.out).mono ?_); (case side1 => repeat (first | (with_reducible first | exact HI768.out | apply IsS91.alloc | apply IsS91.drewN | apply IsS91.drew | apply IsS91.set_1 | apply IsS91.set_2) | exact HI768.out)); (case side2 => repeat (first | (with_reducible first | exact HB.out | apply below_alloc | apply pw_below_drewN | apply below_drew1 | refine below_set ?_ (IsS91.ge HI768.out)) | exact HB.out)); rintro e w28 ⟨rfl, hi, hb, hk⟩; refine ⟨_, rfl, ?_⟩; have n0_ := Aside0.mk (Kd.R_mono (Kd.R_keep (IsS91.apart (show IsS91 w _ g768 t765 x769001_6 x769002_6 from by repeat (first | (with_reducible first | exact HI768.out | apply IsS91.alloc | apply IsS91.drewN | apply IsS91.drew | apply IsS91.set_1 | apply IsS91.set_2) | exact HI768.out)) (pe_ HO_7.out) (by decide)) hk (fun _ h => h.2)) (fun _ h => h.1)); have n1_ := Aside0.mk (hb); have n2_ := Aside0.mk (hi); clear HO_7; clear HB; clear HI768; have HO_7 := n0_; have HB := n1_; have HI768 := n2_; clear n0_ n1_ n2_; (try clear hb); (try clear hb2); (try clear hk); (try clear hi)) | ((with_reducible refine gate_callee (f := 71) rfl ?_); refine goesL_ (some 38) rfl rfl Try.func71 kr_ rfl #[.pointer (some ⟨g768, 0, none⟩), .int .i64 6] rfl (bc_) ?_; (with_reducible refine (spec_l1Once.calls g768 t765 t783 t784 6 false t786 t787 w _ ?side1 ?side2 A23.out).mono ?_); (case side1 => repeat (first | (with_reducible first | exact HI768.out | apply IsS91.alloc | apply IsS91.drewN | apply IsS91.drew | apply IsS91.set_1 | apply IsS91.set_2) | exact HI768.out)); (case side2 => repeat (first | (with_reducible first | exact HB.out | apply below_alloc | apply pw_below_drewN | apply below_drew1 | refine below_set ?_ (IsS91.ge HI768.out)) | exact HB.out)); rintro e w29 ⟨rfl, hi, hb, hk⟩; refine ⟨_, rfl, ?_⟩; have n0_ := Aside0.mk (Kd.R_mono (Kd.R_keep (IsS91.apart (show IsS91 w _ g768 t765 t783 t784 from by repeat (first | (with_reducible first | exact HI768.out | apply IsS91.alloc | apply IsS91.drewN | apply IsS91.drew | apply IsS91.set_1 | apply IsS91.set_2) | exact HI768.out)) (pe_ HO_7.out) (by decide)) hk (fun _ h => h.2)) (fun _ h => h.1)); have n1_ := Aside0.mk (hb); have n2_ := Aside0.mk (hi); clear HO_7; clear HB; clear HI768; have HO_7 := n0_; have HB := n1_; have HI768 := n2_; clear n0_ n1_ n2_; (try clear hb); (try clear hb2); (try clear hk); (try clear hi)) | ((with_reducible refine gate_callee (f := 58) rfl ?_); refine goesL_ (some 43) rfl rfl Try.func58 kr_ rfl #[.pointer (some ⟨g768, 0, none⟩), .int .i64 (wrap64 (t769 + 2))] rfl (bc_) ?_; (with_reducible refine (spec_l1Below.calls g768 t765 t786 t787 (wrap64 (t769 + 2)) t788 t789 t790 w _ ?side1 ?side2 A27.out).mono ?_); (case side1 => repeat (first | (with_reducible first | exact HI768.out | apply IsS91.alloc | apply IsS91.drewN | apply IsS91.drew | apply IsS91.set_1 | apply IsS91.set_2) | exact HI768.out)); (case side2 => repeat (first | (with_reducible first | exact HB.out | apply below_alloc | apply pw_below_drewN | apply below_drew1 | refine below_set ?_ (IsS91.ge HI768.out)) | exact HB.out)); rintro e w30 ⟨rfl, hi, hb, hk⟩; refine ⟨_, rfl, ?_⟩; have n0_ := Aside0.mk (Kd.R_mono (Kd.R_keep (IsS91.apart (show IsS91 w _ g768 t765 t786 t787 from by repeat (first | (with_reducible first | exact HI768.out | apply IsS91.alloc | apply IsS91.drewN | apply IsS91.drew | apply IsS91.set_1 | apply IsS91.set_2) | exact HI768.out)) (pe_ HO_7.out) (by decide)) hk (fun _ h => h.2)) (fun _ h => h.1)); have n1_ := Aside0.mk (hb); have n2_ := Aside0.mk (hi); clear HO_7; clear HB; clear HI768; have HO_7 := n0_; have HB := n1_; have HI768 := n2_; clear n0_ n1_ n2_; (try clear hb); (try clear hb2); (try clear hk); (try clear hi)))
     refine bodyPost_ret (results_list (rs := [.tmp 2, .tmp 3, .tmp 4, .tmp 5, .tmp 6]) rfl (by simp) (.tmp (.tmp (.tmp (.tmp (.tmp .nil)))))) rfl ?_
     exact ⟨_, er_, by (with_reducible repeat (first | apply Kd.R_alloc | apply Kd.R_drewN | apply Kd.R_drew)); exact HO_7.out, by repeat (first | (with_reducible first | exact HB.out | apply below_alloc | apply pw_below_drewN | apply below_drew1 | refine below_set ?_ (IsS91.ge HI768.out)) | exact HB.out)⟩
end Go.Proofs.Ytomanpmffjkkgaa.P
