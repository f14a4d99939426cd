/- What the law FnExactLotTake leans on, cut out of this repo's own texts by a program of this repo: plain functions, the walks that tie the Go calls to them, the law over lists and numbers, and the row. -/
import Derived.Test.YtomanpmffjkkgaaZFnExactLotTake5
import Derived.Shelf.SlSortCmp.WholeK
import Derived.Shelf.SlSortCmp.NoneTotal
import Derived.Shelf.SlicesQ.Reverse
import Derived.Ground.SlsfProg
import Derived.Ground.SlgnProg
import Derived.Test.YtomanpmffjkkgaaProg
import Derived.RowKit
import Derived.IntWalk
import Derived.Lib.Mul64
import Derived.Laws.BitsLemmas
namespace Go.Proofs.Ytomanpmffjkkgaa.P
end Go.Proofs.Ytomanpmffjkkgaa.P
namespace Go.Proofs.Ytomanpmffjkkgaa.EV
end Go.Proofs.Ytomanpmffjkkgaa.EV
namespace Go.Proofs.Ytomanpmffjkkgaa.I1
end Go.Proofs.Ytomanpmffjkkgaa.I1
namespace Go.Proofs.Ytomanpmffjkkgaa.N1
end Go.Proofs.Ytomanpmffjkkgaa.N1
namespace Go.Proofs.Ytomanpmffjkkgaa.E1
end Go.Proofs.Ytomanpmffjkkgaa.E1
namespace Go.Proofs.Ytomanpmffjkkgaa.E2
end Go.Proofs.Ytomanpmffjkkgaa.E2
namespace Go.Proofs.Ytomanpmffjkkgaa.E3
end Go.Proofs.Ytomanpmffjkkgaa.E3
namespace Go.Proofs.Ytomanpmffjkkgaa.L1
end Go.Proofs.Ytomanpmffjkkgaa.L1
namespace Go.Proofs
open Go.Shelf
def Try.sortLot_ren : Go.Shelf.Ren := ⟨fun | 6 => 88 | 15 => 100 | 14 => 99 | 28 => 114 | 29 => 115 | 20 => 106 | 21 => 107 | 22 => 108 | 23 => 109 | 24 => 110 | 25 => 111 | 26 => 112 | 27 => 113 | 46 => 119 | 47 => 120 | 48 => 121 | 49 => 122 | 50 => 123 | 57 => 127 | n => n, fun | 22 => 25 | 24 => 37 | 25 => 56 | 3 => 3 | 39 => 99 | 0 => 0 | 53 => 119 | 55 => 100 | 4 => 4 | 46 => 112 | 45 => 111 | 50 => 116 | 5 => 5 | 9 => 9 | 66 => 122 | 70 => 126 | 76 => 131 | 77 => 58 | n => n, fun | n => n⟩
theorem Try.sortLot : Go.Proofs.SlLaysF0.n6 Try.prog Try.sortLot_ren := {
  mixed := by kernel_rfl
  f6 := ⟨Try.f88.name, by decide, Try.func88.trans (congrArg some (by kernel_rfl))⟩
  f14 := ⟨Try.f99.name, by decide, Try.func99.trans (congrArg some (by kernel_rfl))⟩
  f15 := Try.func100.trans (congrArg some (by kernel_rfl))
  f20 := ⟨Try.f106.name, by decide, Try.func106.trans (congrArg some (by kernel_rfl))⟩
  f21 := ⟨Try.f107.name, by decide, Try.func107.trans (congrArg some (by kernel_rfl))⟩
  f22 := ⟨Try.f108.name, by decide, Try.func108.trans (congrArg some (by kernel_rfl))⟩
  f23 := ⟨Try.f109.name, by decide, Try.func109.trans (congrArg some (by kernel_rfl))⟩
  f24 := ⟨Try.f110.name, by decide, Try.func110.trans (congrArg some (by kernel_rfl))⟩
  f25 := ⟨Try.f111.name, by decide, Try.func111.trans (congrArg some (by kernel_rfl))⟩
  f26 := ⟨Try.f112.name, by decide, Try.func112.trans (congrArg some (by kernel_rfl))⟩
  f27 := ⟨Try.f113.name, by decide, Try.func113.trans (congrArg some (by kernel_rfl))⟩
  f28 := Try.func114.trans (congrArg some (by kernel_rfl))
  f29 := Try.func115.trans (congrArg some (by kernel_rfl))
  f46 := ⟨Try.f119.name, by decide, Try.func119.trans (congrArg some (by kernel_rfl))⟩
  f47 := Try.func120.trans (congrArg some (by kernel_rfl))
  f48 := Try.func121.trans (congrArg some (by kernel_rfl))
  f49 := ⟨Try.f122.name, by decide, Try.func122.trans (congrArg some (by kernel_rfl))⟩
  f50 := ⟨Try.f123.name, by decide, Try.func123.trans (congrArg some (by kernel_rfl))⟩
  f57 := ⟨Try.f127.name, by decide, Try.func127.trans (congrArg some (by kernel_rfl))⟩
  t0 := Try.underlying0
  a0 := Try.isAgg0
  z0 := Try.sizeOf0
  v0 := Try.zeroValue0
  t3 := Try.underlying3
  a3 := Try.isAgg3
  z3 := Try.sizeOf3
  v3 := Try.zeroValue3
  t4 := Try.underlying4
  a4 := Try.isAgg4
  z4 := Try.sizeOf4
  v4 := Try.zeroValue4
  t5 := Try.underlying5
  a5 := Try.isAgg5
  z5 := Try.sizeOf5
  v5 := Try.zeroValue5
  t9 := Try.underlying9
  a9 := Try.isAgg9
  z9 := Try.sizeOf9
  v9 := Try.zeroValue9
  t22 := Try.underlying25
  a22 := Try.isAgg25
  z22 := Try.sizeOf25
  v22 := Try.zeroValue25
  t25 := Try.underlying56
  a25 := Try.isAgg56
  z25 := Try.sizeOf56
  v25 := Try.zeroValue56
  t39 := Try.underlying99
  a39 := Try.isAgg99
  z39 := Try.sizeOf99
  v39 := Try.zeroValue99
  t45 := Try.underlying111
  a45 := Try.isAgg111
  z45 := Try.sizeOf111
  v45 := Try.zeroValue111
  t46 := Try.underlying112
  a46 := Try.isAgg112
  z46 := Try.sizeOf112
  v46 := Try.zeroValue112
  t50 := Try.underlying116
  a50 := Try.isAgg116
  z50 := Try.sizeOf116
  v50 := Try.zeroValue116
  t53 := Try.underlying119
  a53 := Try.isAgg119
  z53 := Try.sizeOf119
  v53 := Try.zeroValue119
  t55 := Try.underlying100
  a55 := Try.isAgg100
  z55 := Try.sizeOf100
  v55 := Try.zeroValue100
  t66 := Try.underlying122
  a66 := Try.isAgg122
  z66 := Try.sizeOf122
  v66 := Try.zeroValue122
  t70 := Try.underlying126
  a70 := Try.isAgg126
  z70 := Try.sizeOf126
  v70 := Try.zeroValue126
  t76 := Try.underlying131
  a76 := Try.isAgg131
  z76 := Try.sizeOf131
  v76 := Try.zeroValue131
  t77 := Try.underlying58
  a77 := Try.isAgg58
  z77 := Try.sizeOf58
  v77 := Try.zeroValue58 }
def Try.reverseLot_ren : Go.Shelf.Ren := ⟨fun | 35 => 67 | n => n, fun | 22 => 25 | 23 => 37 | 3 => 3 | 4 => 4 | 0 => 0 | n => n, fun | n => n⟩
theorem Try.reverseLot : Go.Proofs.SlLaysE0.n35 Try.prog Try.reverseLot_ren := {
  mixed := by kernel_rfl
  f35 := ⟨Try.f67.name, by decide, Try.func67.trans (congrArg some (by kernel_rfl))⟩
  t0 := Try.underlying0
  a0 := Try.isAgg0
  z0 := Try.sizeOf0
  v0 := Try.zeroValue0
  t3 := Try.underlying3
  a3 := Try.isAgg3
  z3 := Try.sizeOf3
  v3 := Try.zeroValue3
  t4 := Try.underlying4
  a4 := Try.isAgg4
  z4 := Try.sizeOf4
  v4 := Try.zeroValue4
  t22 := Try.underlying25
  a22 := Try.isAgg25
  z22 := Try.sizeOf25
  v22 := Try.zeroValue25 }
end Go.Proofs
namespace Go.Proofs.Ytomanpmffjkkgaa.P
open Go.RowKit Go.Proofs.YtomanpmffjkkgaaW.PrintWords Go.Proofs.YtomanpmffjkkgaaW.PrintLast Go.Proofs.YtomanpmffjkkgaaW.PrintMore
attribute [local go_sem] max2_int min2_int max_two min_two max_three min_three max_four min_four   -- for this text's walks alone
set_option linter.unusedVariables false
set_option linter.unusedSimpArgs false
def impl_MulDiv.j0 : Nat → Int → Int → Int → Bool → Option (Int × Int × Bool)
 | 0, _, _, _, _ => none
 | k + 1, x0, x1, x2, x25 => if x25 = true then (some (0, 0, false)) else ((bits_Mul64.f (IntKind.u64.wrap (x0)) (IntKind.u64.wrap (x1))).bind fun bt646 => (if bt646.1 ≥ (IntKind.u64.wrap (x2)) then (some (0, 0, false)) else ((bits_Div64.f k bt646.1 bt646.2 (IntKind.u64.wrap (x2))).bind fun bt648 => (if bt648.1 > 1000000000000000 then (some (0, 0, false)) else (some (wrap64 (bt648.1), wrap64 (bt648.2), true))))))
def impl_MulDiv.f (k : Nat) (a0 : Int) (a1 : Int) (a2 : Int) : Option (Int × Int × Bool) := (impl_in.f a0 0 1000000000000000).bind fun t643 => (if t643 = true then ((impl_in.f a1 0 1000000000000000).bind fun t644 => (if t644 = true then ((impl_in.f a2 1 1000000000000000).bind fun t645 => (impl_MulDiv.j0 k a0 a1 a2 (!t645))) else (impl_MulDiv.j0 k a0 a1 a2 true))) else (impl_MulDiv.j0 k a0 a1 a2 true))
set_option maxHeartbeats 8000000 in
set_option maxRecDepth 100000 in
theorem impl_MulDiv.calls (k : Nat) (a0 : Int) (a1 : Int) (a2 : Int) (r1 : Int) (r2 : Int) (r3 : Bool) (w : World) (h : impl_MulDiv.f k a0 a1 a2 = some (r1, r2, r3)) :
 Calls Try.prog 86 #[.int .i64 a0, .int .i64 a1, .int .i64 a2] w fun e w' => e = .returned (.tuple #[.int .i64 r1, .int .i64 r2, .bool r3]) ∧ Drawn0 w w' := by
 have H : ((impl_in.f a0 0 1000000000000000).bind fun t643 => (if t643 = true then ((impl_in.f a1 0 1000000000000000).bind fun t644 => (if t644 = true then ((impl_in.f a2 1 1000000000000000).bind fun t645 => (impl_MulDiv.j0 k a0 a1 a2 (!t645))) else (impl_MulDiv.j0 k a0 a1 a2 true))) else (impl_MulDiv.j0 k a0 a1 a2 true))) = some (r1, r2, r3) := h
 clear h
 have HC4 := Aside0.mk H
 clear H
 go_enter Try.func86, Try.ntmps86
 go_upto_region 1 with (fail)
 go_cut [25] (fun v25 wc => ∃ (kq : Nat) (x25_3 : Bool), v25 = .bool x25_3 ∧ Aside0 (impl_MulDiv.j0 kq a0 a1 a2 x25_3 = some (r1, r2, r3)) ∧ Aside0 (kq ≤ k) ∧ Drawn0 w wc)
 case first =>
  have H := HC4.out
  clear HC4
  replace H := Option.bind_eq_some_iff.mp H
  obtain ⟨t643, A50, H⟩ := H
  replace H : (if t643 = true then ((impl_in.f a1 0 1000000000000000).bind fun t644 => (if t644 = true then ((impl_in.f a2 1 1000000000000000).bind fun t645 => (impl_MulDiv.j0 k a0 a1 a2 (!t645))) else (impl_MulDiv.j0 k a0 a1 a2 true))) else (impl_MulDiv.j0 k a0 a1 a2 true)) = some (r1, r2, r3) := H
  have A5 := Aside0.mk A50
  clear A50
  by_cases c6 : t643 = true
  ·
   subst c6
   have H1 : ((impl_in.f a1 0 1000000000000000).bind fun t644 => (if t644 = true then ((impl_in.f a2 1 1000000000000000).bind fun t645 => (impl_MulDiv.j0 k a0 a1 a2 (!t645))) else (impl_MulDiv.j0 k a0 a1 a2 true))) = some (r1, r2, r3) := by rw [if_pos rfl] at H; exact H
   clear H
   have H := H1
   clear H1
   replace H := Option.bind_eq_some_iff.mp H
   obtain ⟨t644, A70, H⟩ := H
   replace H : (if t644 = true then ((impl_in.f a2 1 1000000000000000).bind fun t645 => (impl_MulDiv.j0 k a0 a1 a2 (!t645))) else (impl_MulDiv.j0 k a0 a1 a2 true)) = some (r1, r2, r3) := H
   have A7 := Aside0.mk A70
   clear A70
   by_cases c8 : t644 = true
   ·
    subst c8
    have H1 : ((impl_in.f a2 1 1000000000000000).bind fun t645 => (impl_MulDiv.j0 k a0 a1 a2 (!t645))) = some (r1, r2, r3) := by rw [if_pos rfl] at H; exact H
    clear H
    have H := H1
    clear H1
    replace H := Option.bind_eq_some_iff.mp H
    obtain ⟨t645, A90, H⟩ := H
    replace H : (impl_MulDiv.j0 k a0 a1 a2 (!t645)) = some (r1, r2, r3) := H
    have A9 := Aside0.mk A90
    clear A90
    have H' := Aside0.mk H
    clear H
    go_wp2_with (first | ((with_reducible refine gate_callee (f := 65) rfl ?_); refine goesL_ (some 14) rfl rfl Try.func65 (by kernel_rfl) rfl #[.int .i64 a0, .int .i64 0, .int .i64 1000000000000000] rfl (by (try simp only [List.map_toArray, List.map_cons, List.map_nil]); first | done | rfl | (simp only [List.length_drop, List.length_take]; rfl)) ?_; (with_reducible refine (impl_in.calls a0 0 1000000000000000 true _ A5.out).mono ?_); rintro e w' ⟨rfl, ⟨nd, rfl⟩⟩; refine ⟨_, rfl, ?_⟩) | (go_at_call 65; (with_reducible refine (impl_in.calls a1 0 1000000000000000 true _ A7.out).mono ?_); rintro e w' ⟨rfl, ⟨nd, rfl⟩⟩) | (go_at_call 65; (with_reducible refine (impl_in.calls a2 1 1000000000000000 t645 _ A9.out).mono ?_); rintro e w' ⟨rfl, ⟨nd, rfl⟩⟩))
    go_meet
    case rel => exact ⟨_, (!t645), (by first | rfl | (simp; done) | (simp [*]; done)), H', ⟨by first | omega | exact Nat.le_refl _⟩, by repeat (first | exact Drawn0.refl _ | apply Drawn0.step)⟩
   ·
    replace c8 := Bool.eq_false_iff.mpr c8
    subst c8
    have H1 : (impl_MulDiv.j0 k a0 a1 a2 true) = some (r1, r2, r3) := by rw [if_neg (show ¬ (false = true) by decide)] at H; exact H
    clear H
    have H := H1
    clear H1
    have H' := Aside0.mk H
    clear H
    go_wp2_with (first | ((with_reducible refine gate_callee (f := 65) rfl ?_); refine goesL_ (some 14) rfl rfl Try.func65 (by kernel_rfl) rfl #[.int .i64 a0, .int .i64 0, .int .i64 1000000000000000] rfl (by (try simp only [List.map_toArray, List.map_cons, List.map_nil]); first | done | rfl | (simp only [List.length_drop, List.length_take]; rfl)) ?_; (with_reducible refine (impl_in.calls a0 0 1000000000000000 true _ A5.out).mono ?_); rintro e w' ⟨rfl, ⟨nd, rfl⟩⟩; refine ⟨_, rfl, ?_⟩) | (go_at_call 65; (with_reducible refine (impl_in.calls a1 0 1000000000000000 false _ A7.out).mono ?_); rintro e w' ⟨rfl, ⟨nd, rfl⟩⟩))
    go_meet
    case rel => exact ⟨_, (true), (by first | rfl | (simp; done) | (simp [*]; done)), H', ⟨by first | omega | exact Nat.le_refl _⟩, by repeat (first | exact Drawn0.refl _ | apply Drawn0.step)⟩
  ·
   replace c6 := Bool.eq_false_iff.mpr c6
   subst c6
   have H1 : (impl_MulDiv.j0 k a0 a1 a2 true) = some (r1, r2, r3) := by rw [if_neg (show ¬ (false = true) by decide)] at H; exact H
   clear H
   have H := H1
   clear H1
   have H' := Aside0.mk H
   clear H
   go_wp2_with (first | ((with_reducible refine gate_callee (f := 65) rfl ?_); refine goesL_ (some 14) rfl rfl Try.func65 (by kernel_rfl) rfl #[.int .i64 a0, .int .i64 0, .int .i64 1000000000000000] rfl (by (try simp only [List.map_toArray, List.map_cons, List.map_nil]); first | done | rfl | (simp only [List.length_drop, List.length_take]; rfl)) ?_; (with_reducible refine (impl_in.calls a0 0 1000000000000000 false _ A5.out).mono ?_); rintro e w' ⟨rfl, ⟨nd, rfl⟩⟩; refine ⟨_, rfl, ?_⟩))
   go_meet
   case rel => exact ⟨_, (true), (by first | rfl | (simp; done) | (simp [*]; done)), H', ⟨by first | omega | exact Nat.le_refl _⟩, by repeat (first | exact Drawn0.refl _ | apply Drawn0.step)⟩
 case rest =>
  clear HC4
  try clear p2
  try clear c6
  try clear c8
  obtain ⟨kq, x25_3, rfl, HA, HJ3, ⟨mc3, rfl⟩⟩ := hcut
  cases kq with
  | zero => exact absurd HA.out (by simp [impl_MulDiv.j0])
  | succ kj3 =>
   have H := HA.out
   clear HA
   simp only [impl_MulDiv.j0] at H
   by_cases c10 : x25_3 = true
   ·
    subst c10
    have H1 : (some (0, 0, false)) = some (r1, r2, r3) := by rw [if_pos rfl] at H; exact H
    clear H
    have H := H1
    clear H1
    simp only [Option.some.injEq, Prod.mk.injEq] at H
    obtain ⟨rfl, rfl, rfl⟩ := H
    go_wp2
    go_ret3
    exact ⟨by first | rfl | (simp; done) | (simp [*]; done), by repeat (first | exact Drawn0.refl _ | apply Drawn0.step)⟩
   ·
    replace c10 := Bool.eq_false_iff.mpr c10
    subst c10
    have H1 : ((bits_Mul64.f (IntKind.u64.wrap (a0)) (IntKind.u64.wrap (a1))).bind fun bt646 => (if bt646.1 ≥ (IntKind.u64.wrap (a2)) then (some (0, 0, false)) else ((bits_Div64.f kj3 bt646.1 bt646.2 (IntKind.u64.wrap (a2))).bind fun bt648 => (if bt648.1 > 1000000000000000 then (some (0, 0, false)) else (some (wrap64 (bt648.1), wrap64 (bt648.2), true)))))) = some (r1, r2, r3) := by rw [if_neg (show ¬ (false = true) by decide)] at H; exact H
    clear H
    have H := H1
    clear H1
    replace H := Option.bind_eq_some_iff.mp H
    obtain ⟨⟨t646, t647⟩, A110, H⟩ := H
    replace H : (if t646 ≥ (IntKind.u64.wrap (a2)) then (some (0, 0, false)) else ((bits_Div64.f kj3 t646 t647 (IntKind.u64.wrap (a2))).bind fun bt648 => (if bt648.1 > 1000000000000000 then (some (0, 0, false)) else (some (wrap64 (bt648.1), wrap64 (bt648.2), true))))) = some (r1, r2, r3) := H
    have A11 := Aside0.mk A110
    clear A110
    by_cases c12 : t646 ≥ (IntKind.u64.wrap (a2))
    ·
     rw [if_pos c12] at H
     have c12b0 : decide ((IntKind.u64.wrap (a2)) ≤ t646) = true := decide_eq_true c12
     clear c12
     simp only [Option.some.injEq, Prod.mk.injEq] at H
     obtain ⟨rfl, rfl, rfl⟩ := H
     go_wp2_with (first | ((with_reducible refine gate_callee (f := 97) rfl ?_); refine goesL_ (some 31) rfl rfl Try.func97 (by kernel_rfl) rfl #[.int .u64 (IntKind.u64.wrap (a0)), .int .u64 (IntKind.u64.wrap (a1))] rfl (by (try simp only [List.map_toArray, List.map_cons, List.map_nil]); first | done | rfl | (simp only [List.length_drop, List.length_take]; rfl)) ?_; (with_reducible refine (bits_Mul64.calls (IntKind.u64.wrap (a0)) (IntKind.u64.wrap (a1)) t646 t647 _ A11.out).mono ?_); rintro e w' ⟨rfl, ⟨nd, rfl⟩⟩; refine ⟨_, rfl, ?_⟩))
     go_ret3
     exact ⟨by first | rfl | (simp; done) | (simp [*]; done), by repeat (first | exact Drawn0.refl _ | apply Drawn0.step)⟩
    ·
     rw [if_neg c12] at H
     have c12b0 : decide ((IntKind.u64.wrap (a2)) ≤ t646) = false := decide_eq_false c12
     clear c12
     replace H := Option.bind_eq_some_iff.mp H
     obtain ⟨⟨t648, t649⟩, A130, H⟩ := H
     replace H : (if t648 > 1000000000000000 then (some (0, 0, false)) else (some (wrap64 (t648), wrap64 (t649), true))) = some (r1, r2, r3) := H
     have A13 := Aside0.mk A130
     clear A130
     by_cases c14 : t648 > 1000000000000000
     ·
      rw [if_pos c14] at H
      have c14b0 : decide (1000000000000000 < t648) = true := decide_eq_true c14
      clear c14
      simp only [Option.some.injEq, Prod.mk.injEq] at H
      obtain ⟨rfl, rfl, rfl⟩ := H
      go_wp2_with (first | ((with_reducible refine gate_callee (f := 97) rfl ?_); refine goesL_ (some 31) rfl rfl Try.func97 (by kernel_rfl) rfl #[.int .u64 (IntKind.u64.wrap (a0)), .int .u64 (IntKind.u64.wrap (a1))] rfl (by (try simp only [List.map_toArray, List.map_cons, List.map_nil]); first | done | rfl | (simp only [List.length_drop, List.length_take]; rfl)) ?_; (with_reducible refine (bits_Mul64.calls (IntKind.u64.wrap (a0)) (IntKind.u64.wrap (a1)) t646 t647 _ A11.out).mono ?_); rintro e w' ⟨rfl, ⟨nd, rfl⟩⟩; refine ⟨_, rfl, ?_⟩) | ((with_reducible refine gate_callee (f := 98) rfl ?_); refine goesL_ (some 43) rfl rfl Try.func98 (by kernel_rfl) rfl #[.int .u64 t646, .int .u64 t647, .int .u64 (IntKind.u64.wrap (a2))] rfl (by (try simp only [List.map_toArray, List.map_cons, List.map_nil]); first | done | rfl | (simp only [List.length_drop, List.length_take]; rfl)) ?_; (with_reducible refine (bits_Div64.calls kj3 t646 t647 (IntKind.u64.wrap (a2)) t648 t649 _ A13.out).mono ?_); rintro e w' ⟨rfl, ⟨nd, rfl⟩⟩; refine ⟨_, rfl, ?_⟩))
      go_ret3
      exact ⟨by first | rfl | (simp; done) | (simp [*]; done), by repeat (first | exact Drawn0.refl _ | apply Drawn0.step)⟩
     ·
      rw [if_neg c14] at H
      have c14b0 : decide (1000000000000000 < t648) = false := decide_eq_false c14
      clear c14
      simp only [Option.some.injEq, Prod.mk.injEq] at H
      obtain ⟨rfl, rfl, rfl⟩ := H
      go_wp2_with (first | ((with_reducible refine gate_callee (f := 97) rfl ?_); refine goesL_ (some 31) rfl rfl Try.func97 (by kernel_rfl) rfl #[.int .u64 (IntKind.u64.wrap (a0)), .int .u64 (IntKind.u64.wrap (a1))] rfl (by (try simp only [List.map_toArray, List.map_cons, List.map_nil]); first | done | rfl | (simp only [List.length_drop, List.length_take]; rfl)) ?_; (with_reducible refine (bits_Mul64.calls (IntKind.u64.wrap (a0)) (IntKind.u64.wrap (a1)) t646 t647 _ A11.out).mono ?_); rintro e w' ⟨rfl, ⟨nd, rfl⟩⟩; refine ⟨_, rfl, ?_⟩) | ((with_reducible refine gate_callee (f := 98) rfl ?_); refine goesL_ (some 43) rfl rfl Try.func98 (by kernel_rfl) rfl #[.int .u64 t646, .int .u64 t647, .int .u64 (IntKind.u64.wrap (a2))] rfl (by (try simp only [List.map_toArray, List.map_cons, List.map_nil]); first | done | rfl | (simp only [List.length_drop, List.length_take]; rfl)) ?_; (with_reducible refine (bits_Div64.calls kj3 t646 t647 (IntKind.u64.wrap (a2)) t648 t649 _ A13.out).mono ?_); rintro e w' ⟨rfl, ⟨nd, rfl⟩⟩; refine ⟨_, rfl, ?_⟩))
      go_ret3
      exact ⟨by first | rfl | (simp; done) | (simp [*]; done), by repeat (first | exact Drawn0.refl _ | apply Drawn0.step)⟩
def impl_takeLots.l0 : Nat → Int → Int → List (S37) → List (S37) → Int → Int → Option ((List (S37)) × Int)
 | 0, _, _, _, _, _, _ => none
 | k + 1, x1, x6, x7, x15, x16, x17 => if x17 < x16 then (if 0 ≤ x17 then (if x17 < (x15.length : Int) then ((impl_MulDiv.f k ((rd_T37 x15 x17).f4) (mn x1 ((rd_T37 x15 x17).f3)) ((rd_T37 x15 x17).f3)).bind fun bt655 => (if (mn x1 ((rd_T37 x15 x17).f3)) < ((rd_T37 x15 x17).f3) then (if x7.length < 3518437208883 then (impl_takeLots.l0 k (wrap64 (x1 - (mn x1 ((rd_T37 x15 x17).f3)))) (wrap64 (x6 + bt655.1)) (x7 ++ [(⟨(rd_T37 x15 x17).f0, (rd_T37 x15 x17).f1, (rd_T37 x15 x17).f2, wrap64 (((rd_T37 x15 x17).f3) - (mn x1 ((rd_T37 x15 x17).f3))), wrap64 (((rd_T37 x15 x17).f4) - bt655.1)⟩ : S37)]) x15 x16 (wrap64 (x17 + 1))) else (none)) else (impl_takeLots.l0 k (wrap64 (x1 - (mn x1 ((rd_T37 x15 x17).f3)))) (wrap64 (x6 + bt655.1)) x7 x15 x16 (wrap64 (x17 + 1))))) else (none)) else (none)) else (some (x7, x6))
def impl_takeLots.f (k : Nat) (l0 : List (S37)) (a1 : Int) : Option ((List (S37)) × Int) := impl_takeLots.l0 k a1 0 (([] : List (S37))) l0 (l0.length : Int) 0
set_option maxHeartbeats 8000000 in
set_option maxRecDepth 100000 in
theorem impl_takeLots.calls (k : Nat) (A0 : Option Addr) (c0 : Nat) (l0 : List (S37)) (a1 : Int) (r1 : List (S37)) (r2 : Int) (w : World) (hr0 : Kd.C k37 w A0 l0.length l0) (hc0 : l0.length ≤ c0) (h : impl_takeLots.f k l0 a1 = some (r1, r2)) :
 Calls Try.prog 66 #[.slice A0 l0.length c0, .int .i64 a1] w fun e w' => ∃ v0_ : Value, e = .returned (.tuple #[v0_, .int .i64 r2]) ∧ Kd.R k37 37 w' w.heap.size (fun _ => True) v0_ r1 ∧ Below w.heap.size w w' := by
 have hu37 := Try.underlying37
 have HR0 := Aside0.mk hr0
 have HC0 := Aside0.mk hc0
 clear hr0 hc0
 have HB := Aside0.mk (Below.refl w.heap.size w)
 have H : (impl_takeLots.l0 k a1 0 (([] : List (S37))) l0 (l0.length : Int) 0) = some (r1, r2) := h
 clear h
 obtain ⟨y650, hy650⟩ : ∃ y_ : List (S37), y_ = (([] : List (S37))) := ⟨_, rfl⟩
 replace H : (impl_takeLots.l0 k a1 0 y650 l0 (l0.length : Int) 0) = some (r1, r2) := by first | (rw [hy650]; with_reducible exact H) | (have H2_ := (Option.bind_some _ _).symm.trans H; rw [hy650]; with_reducible exact H2_) | (have H2_ := (Option.bind_some _ _).symm.trans H; with_reducible exact H2_) | with_reducible exact H | (rw [hy650]; exact H) | exact H
 have Ny650 := Aside0.mk hy650
 clear hy650
 have H' := Aside0.mk H
 clear H
 go_enter Try.func66, Try.ntmps66
 go_wp2_with (first | ((with_reducible refine gate_dst (N := 14) rfl ?_); refine Kd.R_lit k37 _ 37 ?hg (N := 14) ?hd (xs := ([] : List (S37))) (inner := []) (ok := fun _ => True) (okp := fun _ => True) ?hr ?hp (fun _ hk => hk) trivial (Below.refl _ _) (Nat.le_refl _) (by simp) ?_; (case hd => rfl); (case hg => rfl); (case hr => first | (go_simp; done) | (go_simp; rfl)); (case hp => exact (Reps.none _ _)); intro v651 w3 ho4 hb hg_ hnew_; clear hg_ hnew_; (first | rw [← Ny650.out] at ho4 | (simp only [Int.reduceToNat] at ho4; rw [← Ny650.out] at ho4)); have n0_ := Aside0.mk (Kd.R_lower ho4 (below_size (bb_))); have n1_ := Aside0.mk (below_step (bb_) hb); clear HB; have HO652 := n0_; have HB := n1_; clear n0_ n1_; clear hb ho4))
 go_loopg [1, 6, 7, 17] k (fun kq v1 v6 v7 v17 w' => ∃ (x1_1 : Int) (x6_1 : Int) (x7_1 : List (S37)) (x17_1 : Int), v1 = .int .i64 x1_1 ∧ v6 = .int .i64 x6_1 ∧ v17 = .int .i64 x17_1 ∧ Aside0 (impl_takeLots.l0 kq x1_1 x6_1 x7_1 l0 (l0.length : Int) x17_1 = some (r1, r2)) ∧ Aside0 (kq ≤ k) ∧ Aside0 (Kd.R k37 37 w' w.heap.size (fun _ => True) v7 x7_1) ∧ Aside0 (Below w.heap.size w w'))
 case atStart => exact ⟨(a1), (0), (y650), (0), (by first | rfl | (simp; done) | (simp [*]; done)), (by first | rfl | (simp; done) | (simp [*]; done)), (by first | rfl | (simp; done) | (simp [*]; done)), H', ⟨Nat.le_refl _⟩, ⟨by (with_reducible repeat (first | apply Kd.R_alloc | apply Kd.R_drewN | apply Kd.R_drew)); exact HO652.out⟩, ⟨bb_⟩⟩
 case round =>
  clear H'
  try clear p2
  obtain ⟨x1_1, x6_1, x7_1, x17_1, rfl, rfl, rfl, HA, HK1, HO_7, HB⟩ := hrel
  cases gk with
  | zero => exact absurd HA.out (by simp [impl_takeLots.l0])
  | succ k1 =>
   have H := HA.out
   clear HA
   simp only [impl_takeLots.l0] at H
   by_cases c5 : x17_1 < (l0.length : Int)
   ·
    rw [if_pos c5] at H
    have c5b0 : decide (x17_1 < (l0.length : Int)) = true := decide_eq_true c5
    clear c5
    by_cases c6 : 0 ≤ x17_1
    ·
     rw [if_pos c6] at H
     have c6b0 : decide (0 ≤ x17_1) = true := decide_eq_true c6
     clear c6
     by_cases c7 : x17_1 < (l0.length : Int)
     ·
      rw [if_pos c7] at H
      have c7b0 : decide (x17_1 < (l0.length : Int)) = true := decide_eq_true c7
      clear c7
      obtain ⟨ji8, hji8⟩ : ∃ j_ : Int, (mn x1_1 ((rd_T37 l0 x17_1).f3)) = j_ := ⟨_, rfl⟩
      replace H : ((impl_MulDiv.f k1 ((rd_T37 l0 x17_1).f4) (ji8) ((rd_T37 l0 x17_1).f3)).bind fun bt655 => (if (ji8) < ((rd_T37 l0 x17_1).f3) then (if x7_1.length < 3518437208883 then (impl_takeLots.l0 k1 (wrap64 (x1_1 - (ji8))) (wrap64 (x6_1 + bt655.1)) (x7_1 ++ [(⟨(rd_T37 l0 x17_1).f0, (rd_T37 l0 x17_1).f1, (rd_T37 l0 x17_1).f2, wrap64 (((rd_T37 l0 x17_1).f3) - (ji8)), wrap64 (((rd_T37 l0 x17_1).f4) - bt655.1)⟩ : S37)]) l0 (l0.length : Int) (wrap64 (x17_1 + 1))) else (none)) else (impl_takeLots.l0 k1 (wrap64 (x1_1 - (ji8))) (wrap64 (x6_1 + bt655.1)) x7_1 l0 (l0.length : Int) (wrap64 (x17_1 + 1))))) = some (r1, r2) := by first | (rw [hji8] at H; exact H) | (simp only [hji8] at H ⊢; exact H)
      have hji8_ : (if ((rd_T37 l0 x17_1).f3) < x1_1 then ((rd_T37 l0 x17_1).f3) else x1_1) = ji8 := hji8
      replace H := Option.bind_eq_some_iff.mp H
      obtain ⟨⟨t655, t656, t657⟩, A90, H⟩ := H
      replace H : (if (ji8) < ((rd_T37 l0 x17_1).f3) then (if x7_1.length < 3518437208883 then (impl_takeLots.l0 k1 (wrap64 (x1_1 - (ji8))) (wrap64 (x6_1 + t655)) (x7_1 ++ [(⟨(rd_T37 l0 x17_1).f0, (rd_T37 l0 x17_1).f1, (rd_T37 l0 x17_1).f2, wrap64 (((rd_T37 l0 x17_1).f3) - (ji8)), wrap64 (((rd_T37 l0 x17_1).f4) - t655)⟩ : S37)]) l0 (l0.length : Int) (wrap64 (x17_1 + 1))) else (none)) else (impl_takeLots.l0 k1 (wrap64 (x1_1 - (ji8))) (wrap64 (x6_1 + t655)) x7_1 l0 (l0.length : Int) (wrap64 (x17_1 + 1)))) = some (r1, r2) := H
      have A9 := Aside0.mk A90
      clear A90
      by_cases c10 : (ji8) < ((rd_T37 l0 x17_1).f3)
      ·
       rw [if_pos c10] at H
       have c10b0 : decide ((ji8) < ((rd_T37 l0 x17_1).f3)) = true := decide_eq_true c10
       clear c10
       by_cases c11 : x7_1.length < 3518437208883
       ·
        rw [if_pos c11] at H
        have LMc11 := Aside0.mk c11
        clear c11
        obtain ⟨y658, hy658⟩ : ∃ y_ : List (S37), y_ = (x7_1 ++ [(⟨(rd_T37 l0 x17_1).f0, (rd_T37 l0 x17_1).f1, (rd_T37 l0 x17_1).f2, wrap64 (((rd_T37 l0 x17_1).f3) - (ji8)), wrap64 (((rd_T37 l0 x17_1).f4) - t655)⟩ : S37)]) := ⟨_, rfl⟩
        replace H : (impl_takeLots.l0 k1 (wrap64 (x1_1 - (ji8))) (wrap64 (x6_1 + t655)) y658 l0 (l0.length : Int) (wrap64 (x17_1 + 1))) = some (r1, r2) := by first | (rw [hy658]; with_reducible exact H) | (have H2_ := (Option.bind_some _ _).symm.trans H; rw [hy658]; with_reducible exact H2_) | (have H2_ := (Option.bind_some _ _).symm.trans H; with_reducible exact H2_) | with_reducible exact H | (rw [hy658]; exact H) | exact H
        have Ny658 := Aside0.mk hy658
        clear hy658
        have H' := Aside0.mk H
        clear H
        have p653 : 0 ≤ (x17_1 : Int) := of_decide_eq_true (by first | (with_reducible assumption) | assumption)
        have q653 : x17_1 < (l0.length : Int) := of_decide_eq_true (by first | (with_reducible assumption) | assumption)
        obtain ⟨ad653, e653, hx653_0, hx653_1, hx653_2, hx653_3, hx653_4⟩ := at_T37 HR0.out x17_1 p653 q653
        cases e653
        replace hx653_0 := (HB.out.cell (World.block_lt_of_cell? w _ hx653_0)).trans hx653_0
        replace hx653_1 := (HB.out.cell (World.block_lt_of_cell? w _ hx653_1)).trans hx653_1
        replace hx653_2 := (HB.out.cell (World.block_lt_of_cell? w _ hx653_2)).trans hx653_2
        replace hx653_3 := (HB.out.cell (World.block_lt_of_cell? w _ hx653_3)).trans hx653_3
        replace hx653_4 := (HB.out.cell (World.block_lt_of_cell? w _ hx653_4)).trans hx653_4
        replace p653 := eq_true p653
        replace q653 := eq_true q653
        go_wp2_with (first | ((with_reducible refine gate_dst (N := 9) rfl ?_); refine box_event ?hg (N := 9) ?hd (cs := #[.int .i64 0, .int .i64 0, .int .i64 0, .int .i64 0, .int .i64 0]) (t := 37) ?hr ?_; (case hd => rfl); (case hg => rfl); (case hr => first | (go_simp; done) | (go_simp; rfl)); intro gb654 hg w12 hbox hb; have n0_ := Aside0.mk (Kd.R_below (Kd.R_elderB (by (with_reducible repeat (first | apply Kd.R_alloc | apply Kd.R_drewN | apply Kd.R_drew)); exact HO_7.out) gb654 (Nat.le_of_eq hg.symm)) hb); have n1_ := Aside0.mk (below_step (bb_) hb); have n2_ := Aside0.mk (hbox); have n3_ := Aside0.mk ((by rw [hg]; exact (below_size (bb_)) : w.heap.size ≤ gb654)); have n4_ := Aside0.mk ((by rw [hg]; exact (below_size (bb_)) : w.heap.size ≤ gb654)); clear HO_7; clear HB; have HO_7 := n0_; have HB := n1_; have BK654 := n2_; have GW654 := n3_; have GE654 := n4_; clear n0_ n1_ n2_ n3_ n4_; clear hb hbox hg; have hcz13_0 : w12.cell? ⟨gb654, 0, none⟩ = some (.int .i64 0) := (blk_cell BK654.out 0).trans rfl; have hcz13_1 : w12.cell? ⟨gb654, 1, none⟩ = some (.int .i64 0) := (blk_cell BK654.out 1).trans rfl; have hcz13_2 : w12.cell? ⟨gb654, 2, none⟩ = some (.int .i64 0) := (blk_cell BK654.out 2).trans rfl; have hcz13_3 : w12.cell? ⟨gb654, 3, none⟩ = some (.int .i64 0) := (blk_cell BK654.out 3).trans rfl; have hcz13_4 : w12.cell? ⟨gb654, 4, none⟩ = some (.int .i64 0) := (blk_cell BK654.out 4).trans rfl; have hfz13_0 := blk_frozen BK654.out 0; have hfz13_1 := blk_frozen BK654.out 1; have hfz13_2 := blk_frozen BK654.out 2; have hfz13_3 := blk_frozen BK654.out 3; have hfz13_4 := blk_frozen BK654.out 4) | ((with_reducible refine gate_store (t := 37) (p := 9) rfl ?_); refine store_event (t := 37) (p := 9) (v := ?vo_w14) (w1 := (((((w12.setCell ⟨gb654, 0, none⟩ (.int .i64 ((rd_T37 l0 x17_1).f0))).setCell ⟨gb654, 1, none⟩ (.int .i64 ((rd_T37 l0 x17_1).f1))).setCell ⟨gb654, 2, none⟩ (.int .i64 ((rd_T37 l0 x17_1).f2))).setCell ⟨gb654, 3, none⟩ (.int .i64 ((rd_T37 l0 x17_1).f3))).setCell ⟨gb654, 4, none⟩ (.int .i64 ((rd_T37 l0 x17_1).f4)))) ?hg ?ho ?hn ?hr ?_; (case ho => rfl); (case hg => rfl); (case hn => rfl); (case hr => first | (go_simp; done) | (go_simp; rfl)); intro w14 hw; have n0_ : Aside0 (Kd.R k37 37 w14 w.heap.size (fun k_ => k_ ≠ gb654) u7 x7_1) := ⟨(by rw [hw]; exact (by (with_reducible repeat (first | apply Kd.R_alloc | apply Kd.R_drewN | apply Kd.R_drew)); exact Kd.R_mono (Kd.R_far (p := ⟨gb654, 4, none⟩) (Kd.R_far (p := ⟨gb654, 3, none⟩) (Kd.R_far (p := ⟨gb654, 2, none⟩) (Kd.R_far (p := ⟨gb654, 1, none⟩) (Kd.R_far (p := ⟨gb654, 0, none⟩) (Kd.R_mono HO_7.out (fun k_ hk => (⟨hk, hk.2⟩ : _ ∧ k_ ≠ gb654))) (fun _ hk => hk.2) (.int .i64 ((rd_T37 l0 x17_1).f0))) (fun _ hk => hk.2) (.int .i64 ((rd_T37 l0 x17_1).f1))) (fun _ hk => hk.2) (.int .i64 ((rd_T37 l0 x17_1).f2))) (fun _ hk => hk.2) (.int .i64 ((rd_T37 l0 x17_1).f3))) (fun _ hk => hk.2) (.int .i64 ((rd_T37 l0 x17_1).f4))) (fun _ hk => hk.1.2)))⟩; have n1_ : Aside0 (w14.heap[gb654]? = some (.cells #[.int .i64 ((rd_T37 l0 x17_1).f0), .int .i64 ((rd_T37 l0 x17_1).f1), .int .i64 ((rd_T37 l0 x17_1).f2), .int .i64 ((rd_T37 l0 x17_1).f3), .int .i64 ((rd_T37 l0 x17_1).f4)] 37 (0, 0))) := ⟨(by rw [hw]; exact (by (with_reducible repeat (first | refine blk_drewN ?_ _ | refine blk_drew ?_ | refine blk_alloc ?_ _)); refine blk_put (cs := #[.int .i64 ((rd_T37 l0 x17_1).f0), .int .i64 ((rd_T37 l0 x17_1).f1), .int .i64 ((rd_T37 l0 x17_1).f2), .int .i64 ((rd_T37 l0 x17_1).f3), .int .i64 0]) ?_ 4 _ rfl; (with_reducible repeat (first | refine blk_drewN ?_ _ | refine blk_drew ?_ | refine blk_alloc ?_ _)); refine blk_put (cs := #[.int .i64 ((rd_T37 l0 x17_1).f0), .int .i64 ((rd_T37 l0 x17_1).f1), .int .i64 ((rd_T37 l0 x17_1).f2), .int .i64 0, .int .i64 0]) ?_ 3 _ rfl; (with_reducible repeat (first | refine blk_drewN ?_ _ | refine blk_drew ?_ | refine blk_alloc ?_ _)); refine blk_put (cs := #[.int .i64 ((rd_T37 l0 x17_1).f0), .int .i64 ((rd_T37 l0 x17_1).f1), .int .i64 0, .int .i64 0, .int .i64 0]) ?_ 2 _ rfl; (with_reducible repeat (first | refine blk_drewN ?_ _ | refine blk_drew ?_ | refine blk_alloc ?_ _)); refine blk_put (cs := #[.int .i64 ((rd_T37 l0 x17_1).f0), .int .i64 0, .int .i64 0, .int .i64 0, .int .i64 0]) ?_ 1 _ rfl; (with_reducible repeat (first | refine blk_drewN ?_ _ | refine blk_drew ?_ | refine blk_alloc ?_ _)); refine blk_put (cs := #[.int .i64 0, .int .i64 0, .int .i64 0, .int .i64 0, .int .i64 0]) ?_ 0 _ rfl; (with_reducible repeat (first | refine blk_drewN ?_ _ | refine blk_drew ?_ | refine blk_alloc ?_ _)); exact BK654.out))⟩; have n2_ : Aside0 (Below w.heap.size w w14) := ⟨(by rw [hw]; exact (by repeat (first | (with_reducible first | exact HB.out | apply below_alloc | apply pw_below_drewN | apply below_drew1 | refine below_set ?_ GE654.out) | exact HB.out)))⟩; clear hw; clear HO_7; clear BK654; clear HB; have HO_7 := n0_; have BK654 := n1_; have HB := n2_; clear n0_ n1_ n2_; have hcz15_0 : w14.cell? ⟨gb654, 0, none⟩ = some (.int .i64 ((rd_T37 l0 x17_1).f0)) := (blk_cell BK654.out 0).trans rfl; have hcz15_1 : w14.cell? ⟨gb654, 1, none⟩ = some (.int .i64 ((rd_T37 l0 x17_1).f1)) := (blk_cell BK654.out 1).trans rfl; have hcz15_2 : w14.cell? ⟨gb654, 2, none⟩ = some (.int .i64 ((rd_T37 l0 x17_1).f2)) := (blk_cell BK654.out 2).trans rfl; have hcz15_3 : w14.cell? ⟨gb654, 3, none⟩ = some (.int .i64 ((rd_T37 l0 x17_1).f3)) := (blk_cell BK654.out 3).trans rfl; have hcz15_4 : w14.cell? ⟨gb654, 4, none⟩ = some (.int .i64 ((rd_T37 l0 x17_1).f4)) := (blk_cell BK654.out 4).trans rfl; have hfz15_0 := blk_frozen BK654.out 0; have hfz15_1 := blk_frozen BK654.out 1; have hfz15_2 := blk_frozen BK654.out 2; have hfz15_3 := blk_frozen BK654.out 3; have hfz15_4 := blk_frozen BK654.out 4) | ((with_reducible refine gate_callee (f := 86) rfl ?_); refine goesL_ (some 34) rfl rfl Try.func86 (by kernel_rfl) rfl #[.int .i64 ((rd_T37 l0 x17_1).f4), .int .i64 ji8, .int .i64 ((rd_T37 l0 x17_1).f3)] rfl (by (try simp only [List.map_toArray, List.map_cons, List.map_nil]); first | done | (simp only [hji8]; rfl) | rfl | (simp only [List.length_drop, List.length_take]; rfl)) ?_; (with_reducible refine (impl_MulDiv.calls k1 ((rd_T37 l0 x17_1).f4) ji8 ((rd_T37 l0 x17_1).f3) t655 t656 t657 _ A9.out).mono ?_); rintro e w' ⟨rfl, ⟨nd, rfl⟩⟩; refine ⟨_, rfl, ?_⟩; (try (rw [drewN_self w14]; generalize hq_ : World.drewN w14 _ = w14; have n0_ : Aside0 (Kd.R k37 37 w14 w.heap.size (fun k_ => k_ ≠ gb654) u7 x7_1) := ⟨by rw [← hq_]; exact (by (with_reducible repeat (first | apply Kd.R_alloc | apply Kd.R_drewN | apply Kd.R_drew)); exact HO_7.out)⟩; have n1_ : Aside0 (w14.heap[gb654]? = some (.cells #[.int .i64 ((rd_T37 l0 x17_1).f0), .int .i64 ((rd_T37 l0 x17_1).f1), .int .i64 ((rd_T37 l0 x17_1).f2), .int .i64 ((rd_T37 l0 x17_1).f3), .int .i64 ((rd_T37 l0 x17_1).f4)] 37 (0, 0))) := ⟨by rw [← hq_]; exact (by (with_reducible repeat (first | refine blk_drewN ?_ _ | refine blk_drew ?_ | refine blk_alloc ?_ _)); exact BK654.out)⟩; have n2_ : Aside0 (Below w.heap.size w w14) := ⟨by rw [← hq_]; exact (by repeat (first | (with_reducible first | exact HB.out | apply below_alloc | apply pw_below_drewN | apply below_drew1 | refine below_set ?_ GE654.out) | exact HB.out))⟩; clear HO_7 BK654 HB hq_; have HO_7 := n0_; have BK654 := n1_; have HB := n2_; clear n0_ n1_ n2_; have hcy_0 : w14.cell? ⟨gb654, 0, none⟩ = some (.int .i64 ((rd_T37 l0 x17_1).f0)) := (blk_cell BK654.out 0).trans rfl; have hfy_0 := blk_frozen BK654.out 0; have hcy_1 : w14.cell? ⟨gb654, 1, none⟩ = some (.int .i64 ((rd_T37 l0 x17_1).f1)) := (blk_cell BK654.out 1).trans rfl; have hfy_1 := blk_frozen BK654.out 1; have hcy_2 : w14.cell? ⟨gb654, 2, none⟩ = some (.int .i64 ((rd_T37 l0 x17_1).f2)) := (blk_cell BK654.out 2).trans rfl; have hfy_2 := blk_frozen BK654.out 2; have hcy_3 : w14.cell? ⟨gb654, 3, none⟩ = some (.int .i64 ((rd_T37 l0 x17_1).f3)) := (blk_cell BK654.out 3).trans rfl; have hfy_3 := blk_frozen BK654.out 3; have hcy_4 : w14.cell? ⟨gb654, 4, none⟩ = some (.int .i64 ((rd_T37 l0 x17_1).f4)) := (blk_cell BK654.out 4).trans rfl; have hfy_4 := blk_frozen BK654.out 4))) | ((with_reducible refine gate_store (t := 3) (p := 49) rfl ?_); refine store_event (t := 3) (p := 49) (v := ?vo_w16) (w1 := (w14.setCell ⟨gb654, 3, none⟩ (.int .i64 (wrap64 (((rd_T37 l0 x17_1).f3) - (ji8)))))) ?hg ?ho ?hn ?hr ?_; (case ho => rfl); (case hg => rfl); (case hn => rfl); (case hr => first | (go_simp; done) | (go_simp; rfl)); intro w16 hw; have n0_ : Aside0 (Kd.R k37 37 w16 w.heap.size (fun k_ => k_ ≠ gb654) u7 x7_1) := ⟨(by rw [hw]; exact (by (with_reducible repeat (first | apply Kd.R_alloc | apply Kd.R_drewN | apply Kd.R_drew)); exact Kd.R_mono (Kd.R_far (p := ⟨gb654, 3, none⟩) (Kd.R_mono HO_7.out (fun k_ hk => (⟨hk, hk⟩ : _ ∧ k_ ≠ gb654))) (fun _ hk => hk.2) (.int .i64 (wrap64 (((rd_T37 l0 x17_1).f3) - (ji8))))) (fun _ hk => hk.1)))⟩; have n1_ : Aside0 (w16.heap[gb654]? = some (.cells #[.int .i64 ((rd_T37 l0 x17_1).f0), .int .i64 ((rd_T37 l0 x17_1).f1), .int .i64 ((rd_T37 l0 x17_1).f2), .int .i64 (wrap64 (((rd_T37 l0 x17_1).f3) - (ji8))), .int .i64 ((rd_T37 l0 x17_1).f4)] 37 (0, 0))) := ⟨(by rw [hw]; exact (by (with_reducible repeat (first | refine blk_drewN ?_ _ | refine blk_drew ?_ | refine blk_alloc ?_ _)); refine blk_put (cs := #[.int .i64 ((rd_T37 l0 x17_1).f0), .int .i64 ((rd_T37 l0 x17_1).f1), .int .i64 ((rd_T37 l0 x17_1).f2), .int .i64 ((rd_T37 l0 x17_1).f3), .int .i64 ((rd_T37 l0 x17_1).f4)]) ?_ 3 _ rfl; (with_reducible repeat (first | refine blk_drewN ?_ _ | refine blk_drew ?_ | refine blk_alloc ?_ _)); exact BK654.out))⟩; have n2_ : Aside0 (Below w.heap.size w w16) := ⟨(by rw [hw]; exact (by repeat (first | (with_reducible first | exact HB.out | apply below_alloc | apply pw_below_drewN | apply below_drew1 | refine below_set ?_ GE654.out) | exact HB.out)))⟩; clear hw; clear HO_7; clear BK654; clear HB; have HO_7 := n0_; have BK654 := n1_; have HB := n2_; clear n0_ n1_ n2_; have hcz17_0 : w16.cell? ⟨gb654, 0, none⟩ = some (.int .i64 ((rd_T37 l0 x17_1).f0)) := (blk_cell BK654.out 0).trans rfl; have hcz17_1 : w16.cell? ⟨gb654, 1, none⟩ = some (.int .i64 ((rd_T37 l0 x17_1).f1)) := (blk_cell BK654.out 1).trans rfl; have hcz17_2 : w16.cell? ⟨gb654, 2, none⟩ = some (.int .i64 ((rd_T37 l0 x17_1).f2)) := (blk_cell BK654.out 2).trans rfl; have hcz17_3 : w16.cell? ⟨gb654, 3, none⟩ = some (.int .i64 (wrap64 (((rd_T37 l0 x17_1).f3) - (ji8)))) := (blk_cell BK654.out 3).trans rfl; have hcz17_4 : w16.cell? ⟨gb654, 4, none⟩ = some (.int .i64 ((rd_T37 l0 x17_1).f4)) := (blk_cell BK654.out 4).trans rfl; have hfz17_0 := blk_frozen BK654.out 0; have hfz17_1 := blk_frozen BK654.out 1; have hfz17_2 := blk_frozen BK654.out 2; have hfz17_3 := blk_frozen BK654.out 3; have hfz17_4 := blk_frozen BK654.out 4) | ((with_reducible refine gate_store (t := 3) (p := 54) rfl ?_); refine store_event (t := 3) (p := 54) (v := ?vo_w18) (w1 := (w16.setCell ⟨gb654, 4, none⟩ (.int .i64 (wrap64 (((rd_T37 l0 x17_1).f4) - t655))))) ?hg ?ho ?hn ?hr ?_; (case ho => rfl); (case hg => rfl); (case hn => rfl); (case hr => first | (go_simp; done) | (go_simp; rfl)); intro w18 hw; have n0_ : Aside0 (Kd.R k37 37 w18 w.heap.size (fun k_ => k_ ≠ gb654) u7 x7_1) := ⟨(by rw [hw]; exact (by (with_reducible repeat (first | apply Kd.R_alloc | apply Kd.R_drewN | apply Kd.R_drew)); exact Kd.R_mono (Kd.R_far (p := ⟨gb654, 4, none⟩) (Kd.R_mono HO_7.out (fun k_ hk => (⟨hk, hk⟩ : _ ∧ k_ ≠ gb654))) (fun _ hk => hk.2) (.int .i64 (wrap64 (((rd_T37 l0 x17_1).f4) - t655)))) (fun _ hk => hk.1)))⟩; have n1_ : Aside0 (w18.heap[gb654]? = some (.cells #[.int .i64 ((rd_T37 l0 x17_1).f0), .int .i64 ((rd_T37 l0 x17_1).f1), .int .i64 ((rd_T37 l0 x17_1).f2), .int .i64 (wrap64 (((rd_T37 l0 x17_1).f3) - (ji8))), .int .i64 (wrap64 (((rd_T37 l0 x17_1).f4) - t655))] 37 (0, 0))) := ⟨(by rw [hw]; exact (by (with_reducible repeat (first | refine blk_drewN ?_ _ | refine blk_drew ?_ | refine blk_alloc ?_ _)); refine blk_put (cs := #[.int .i64 ((rd_T37 l0 x17_1).f0), .int .i64 ((rd_T37 l0 x17_1).f1), .int .i64 ((rd_T37 l0 x17_1).f2), .int .i64 (wrap64 (((rd_T37 l0 x17_1).f3) - (ji8))), .int .i64 ((rd_T37 l0 x17_1).f4)]) ?_ 4 _ rfl; (with_reducible repeat (first | refine blk_drewN ?_ _ | refine blk_drew ?_ | refine blk_alloc ?_ _)); exact BK654.out))⟩; have n2_ : Aside0 (Below w.heap.size w w18) := ⟨(by rw [hw]; exact (by repeat (first | (with_reducible first | exact HB.out | apply below_alloc | apply pw_below_drewN | apply below_drew1 | refine below_set ?_ GE654.out) | exact HB.out)))⟩; clear hw; clear HO_7; clear BK654; clear HB; have HO_7 := n0_; have BK654 := n1_; have HB := n2_; clear n0_ n1_ n2_; have hcz19_0 : w18.cell? ⟨gb654, 0, none⟩ = some (.int .i64 ((rd_T37 l0 x17_1).f0)) := (blk_cell BK654.out 0).trans rfl; have hcz19_1 : w18.cell? ⟨gb654, 1, none⟩ = some (.int .i64 ((rd_T37 l0 x17_1).f1)) := (blk_cell BK654.out 1).trans rfl; have hcz19_2 : w18.cell? ⟨gb654, 2, none⟩ = some (.int .i64 ((rd_T37 l0 x17_1).f2)) := (blk_cell BK654.out 2).trans rfl; have hcz19_3 : w18.cell? ⟨gb654, 3, none⟩ = some (.int .i64 (wrap64 (((rd_T37 l0 x17_1).f3) - (ji8)))) := (blk_cell BK654.out 3).trans rfl; have hcz19_4 : w18.cell? ⟨gb654, 4, none⟩ = some (.int .i64 (wrap64 (((rd_T37 l0 x17_1).f4) - t655))) := (blk_cell BK654.out 4).trans rfl; have hfz19_0 := blk_frozen BK654.out 0; have hfz19_1 := blk_frozen BK654.out 1; have hfz19_2 := blk_frozen BK654.out 2; have hfz19_3 := blk_frozen BK654.out 3; have hfz19_4 := blk_frozen BK654.out 4) | ((with_reducible refine gate_builtin (b := .append) (xs := #[.tmp 55, .tmp 57]) rfl ?_); at_builtin; refine Kd.R_append k37 (w0 := w) w.heap.size rfl (.tmp 55) (.tmp 57) 25 37 (.agg #[(.int .i64 0), (.int .i64 0), (.int .i64 0), (.int .i64 0), (.int .i64 0)]) 40 rfl Try.underlying25 info37 rfl (by decide) (by omega) u7 x7_1 (⟨(rd_T37 l0 x17_1).f0, (rd_T37 l0 x17_1).f1, (rd_T37 l0 x17_1).f2, wrap64 (((rd_T37 l0 x17_1).f3) - (ji8)), wrap64 (((rd_T37 l0 x17_1).f4) - t655)⟩ : S37) [.int .i64 ((rd_T37 l0 x17_1).f0), .int .i64 ((rd_T37 l0 x17_1).f1), .int .i64 ((rd_T37 l0 x17_1).f2), .int .i64 (wrap64 (((rd_T37 l0 x17_1).f3) - (ji8))), .int .i64 (wrap64 (((rd_T37 l0 x17_1).f4) - t655))] (fun k_ => k_ ≠ gb654) (fun _ => False) rfl rfl ?aP (fun _ hk => hk.elim) ?aF ?aO ?aB ?aS ?aL ?_; (case aP => exact k37_mkM _ _ _ (⟨(rd_T37 l0 x17_1).f0, (rd_T37 l0 x17_1).f1, (rd_T37 l0 x17_1).f2, wrap64 (((rd_T37 l0 x17_1).f3) - (ji8)), wrap64 (((rd_T37 l0 x17_1).f4) - t655)⟩ : S37)); (case aB => exact (by repeat (first | (with_reducible first | exact HB.out | apply below_alloc | apply pw_below_drewN | apply below_drew1 | refine below_set ?_ GE654.out) | exact HB.out))); (case aF => exact (fun k_ hk => Kd.freshB (g := gb654) (o := .cells #[.int .i64 ((rd_T37 l0 x17_1).f0), .int .i64 ((rd_T37 l0 x17_1).f1), .int .i64 ((rd_T37 l0 x17_1).f2), .int .i64 (wrap64 (((rd_T37 l0 x17_1).f3) - (ji8))), .int .i64 (wrap64 (((rd_T37 l0 x17_1).f4) - t655))] 37 (0, 0)) (by (with_reducible repeat (first | refine blk_drewN ?_ _ | refine blk_drew ?_ | refine blk_alloc ?_ _)); exact BK654.out) k_ hk)); (case aO => exact (by (with_reducible repeat (first | apply Kd.R_alloc | apply Kd.R_drewN | apply Kd.R_drew)); exact HO_7.out)); (case aS => exact (below_size (by repeat (first | (with_reducible first | exact HB.out | apply below_alloc | apply pw_below_drewN | apply below_drew1 | refine below_set ?_ GE654.out) | exact HB.out)))); (case aL => have := LMc11.out; omega); intro v659 w20 ho hb hg hat; rw [← Ny658.out] at ho; have n0_ := Aside0.mk (blk_grown (g := gb654) (o := .cells #[.int .i64 ((rd_T37 l0 x17_1).f0), .int .i64 ((rd_T37 l0 x17_1).f1), .int .i64 ((rd_T37 l0 x17_1).f2), .int .i64 (wrap64 (((rd_T37 l0 x17_1).f3) - (ji8))), .int .i64 (wrap64 (((rd_T37 l0 x17_1).f4) - t655))] 37 (0, 0)) (by (with_reducible repeat (first | refine blk_drewN ?_ _ | refine blk_drew ?_ | refine blk_alloc ?_ _)); exact BK654.out) hg (Kd.R_away HO_7.out (fun _ hk => hk))); have n1_ := Aside0.mk (hb); have n2_ := Aside0.mk (ho); clear BK654; clear HB; clear HO_7; have BK654 := n0_; have HB := n1_; have HO660 := n2_; clear n0_ n1_ n2_; clear ho hb hg hat))
        go_roundg k1
        case measure => have := HK1.out; omega
        case rel => exact ⟨(wrap64 (x1_1 - (ji8))), (wrap64 (x6_1 + t655)), (y658), (wrap64 (x17_1 + 1)), (by first | rfl | (simp; done) | (simp only [← hji8] <;> (first | rfl | simp)) | (simp [*]; done)), (by first | rfl | (simp; done) | (simp [*]; done)), (by first | rfl | (simp; done) | (simp [*]; done)), H', ⟨by have := HK1.out; omega⟩, ⟨by (with_reducible repeat (first | apply Kd.R_alloc | apply Kd.R_drewN | apply Kd.R_drew)); exact Kd.R_mono HO660.out (fun _ hk => trivial)⟩, ⟨by repeat (first | (with_reducible first | exact HB.out | apply below_alloc | apply pw_below_drewN | apply below_drew1 | refine below_set ?_ GE654.out) | exact HB.out)⟩⟩
       ·
        rw [if_neg c11] at H
        exact absurd H (by simp)
      ·
       rw [if_neg c10] at H
       have c10b0 : decide ((ji8) < ((rd_T37 l0 x17_1).f3)) = false := decide_eq_false c10
       clear c10
       have H' := Aside0.mk H
       clear H
       have p653 : 0 ≤ (x17_1 : Int) := of_decide_eq_true (by first | (with_reducible assumption) | assumption)
       have q653 : x17_1 < (l0.length : Int) := of_decide_eq_true (by first | (with_reducible assumption) | assumption)
       obtain ⟨ad653, e653, hx653_0, hx653_1, hx653_2, hx653_3, hx653_4⟩ := at_T37 HR0.out x17_1 p653 q653
       cases e653
       replace hx653_0 := (HB.out.cell (World.block_lt_of_cell? w _ hx653_0)).trans hx653_0
       replace hx653_1 := (HB.out.cell (World.block_lt_of_cell? w _ hx653_1)).trans hx653_1
       replace hx653_2 := (HB.out.cell (World.block_lt_of_cell? w _ hx653_2)).trans hx653_2
       replace hx653_3 := (HB.out.cell (World.block_lt_of_cell? w _ hx653_3)).trans hx653_3
       replace hx653_4 := (HB.out.cell (World.block_lt_of_cell? w _ hx653_4)).trans hx653_4
       replace p653 := eq_true p653
       replace q653 := eq_true q653
       go_wp2_with (first | ((with_reducible refine gate_dst (N := 9) rfl ?_); refine box_event ?hg (N := 9) ?hd (cs := #[.int .i64 0, .int .i64 0, .int .i64 0, .int .i64 0, .int .i64 0]) (t := 37) ?hr ?_; (case hd => rfl); (case hg => rfl); (case hr => first | (go_simp; done) | (go_simp; rfl)); intro gb654 hg w21 hbox hb; have n0_ := Aside0.mk (Kd.R_below (Kd.R_elderB (by (with_reducible repeat (first | apply Kd.R_alloc | apply Kd.R_drewN | apply Kd.R_drew)); exact HO_7.out) gb654 (Nat.le_of_eq hg.symm)) hb); have n1_ := Aside0.mk (below_step (bb_) hb); have n2_ := Aside0.mk (hbox); have n3_ := Aside0.mk ((by rw [hg]; exact (below_size (bb_)) : w.heap.size ≤ gb654)); have n4_ := Aside0.mk ((by rw [hg]; exact (below_size (bb_)) : w.heap.size ≤ gb654)); clear HO_7; clear HB; have HO_7 := n0_; have HB := n1_; have BK654 := n2_; have GW654 := n3_; have GE654 := n4_; clear n0_ n1_ n2_ n3_ n4_; clear hb hbox hg; have hcz22_0 : w21.cell? ⟨gb654, 0, none⟩ = some (.int .i64 0) := (blk_cell BK654.out 0).trans rfl; have hcz22_1 : w21.cell? ⟨gb654, 1, none⟩ = some (.int .i64 0) := (blk_cell BK654.out 1).trans rfl; have hcz22_2 : w21.cell? ⟨gb654, 2, none⟩ = some (.int .i64 0) := (blk_cell BK654.out 2).trans rfl; have hcz22_3 : w21.cell? ⟨gb654, 3, none⟩ = some (.int .i64 0) := (blk_cell BK654.out 3).trans rfl; have hcz22_4 : w21.cell? ⟨gb654, 4, none⟩ = some (.int .i64 0) := (blk_cell BK654.out 4).trans rfl; have hfz22_0 := blk_frozen BK654.out 0; have hfz22_1 := blk_frozen BK654.out 1; have hfz22_2 := blk_frozen BK654.out 2; have hfz22_3 := blk_frozen BK654.out 3; have hfz22_4 := blk_frozen BK654.out 4) | ((with_reducible refine gate_store (t := 37) (p := 9) rfl ?_); refine store_event (t := 37) (p := 9) (v := ?vo_w23) (w1 := (((((w21.setCell ⟨gb654, 0, none⟩ (.int .i64 ((rd_T37 l0 x17_1).f0))).setCell ⟨gb654, 1, none⟩ (.int .i64 ((rd_T37 l0 x17_1).f1))).setCell ⟨gb654, 2, none⟩ (.int .i64 ((rd_T37 l0 x17_1).f2))).setCell ⟨gb654, 3, none⟩ (.int .i64 ((rd_T37 l0 x17_1).f3))).setCell ⟨gb654, 4, none⟩ (.int .i64 ((rd_T37 l0 x17_1).f4)))) ?hg ?ho ?hn ?hr ?_; (case ho => rfl); (case hg => rfl); (case hn => rfl); (case hr => first | (go_simp; done) | (go_simp; rfl)); intro w23 hw; have n0_ : Aside0 (Kd.R k37 37 w23 w.heap.size (fun k_ => k_ ≠ gb654) u7 x7_1) := ⟨(by rw [hw]; exact (by (with_reducible repeat (first | apply Kd.R_alloc | apply Kd.R_drewN | apply Kd.R_drew)); exact Kd.R_mono (Kd.R_far (p := ⟨gb654, 4, none⟩) (Kd.R_far (p := ⟨gb654, 3, none⟩) (Kd.R_far (p := ⟨gb654, 2, none⟩) (Kd.R_far (p := ⟨gb654, 1, none⟩) (Kd.R_far (p := ⟨gb654, 0, none⟩) (Kd.R_mono HO_7.out (fun k_ hk => (⟨hk, hk.2⟩ : _ ∧ k_ ≠ gb654))) (fun _ hk => hk.2) (.int .i64 ((rd_T37 l0 x17_1).f0))) (fun _ hk => hk.2) (.int .i64 ((rd_T37 l0 x17_1).f1))) (fun _ hk => hk.2) (.int .i64 ((rd_T37 l0 x17_1).f2))) (fun _ hk => hk.2) (.int .i64 ((rd_T37 l0 x17_1).f3))) (fun _ hk => hk.2) (.int .i64 ((rd_T37 l0 x17_1).f4))) (fun _ hk => hk.1.2)))⟩; have n1_ : Aside0 (w23.heap[gb654]? = some (.cells #[.int .i64 ((rd_T37 l0 x17_1).f0), .int .i64 ((rd_T37 l0 x17_1).f1), .int .i64 ((rd_T37 l0 x17_1).f2), .int .i64 ((rd_T37 l0 x17_1).f3), .int .i64 ((rd_T37 l0 x17_1).f4)] 37 (0, 0))) := ⟨(by rw [hw]; exact (by (with_reducible repeat (first | refine blk_drewN ?_ _ | refine blk_drew ?_ | refine blk_alloc ?_ _)); refine blk_put (cs := #[.int .i64 ((rd_T37 l0 x17_1).f0), .int .i64 ((rd_T37 l0 x17_1).f1), .int .i64 ((rd_T37 l0 x17_1).f2), .int .i64 ((rd_T37 l0 x17_1).f3), .int .i64 0]) ?_ 4 _ rfl; (with_reducible repeat (first | refine blk_drewN ?_ _ | refine blk_drew ?_ | refine blk_alloc ?_ _)); refine blk_put (cs := #[.int .i64 ((rd_T37 l0 x17_1).f0), .int .i64 ((rd_T37 l0 x17_1).f1), .int .i64 ((rd_T37 l0 x17_1).f2), .int .i64 0, .int .i64 0]) ?_ 3 _ rfl; (with_reducible repeat (first | refine blk_drewN ?_ _ | refine blk_drew ?_ | refine blk_alloc ?_ _)); refine blk_put (cs := #[.int .i64 ((rd_T37 l0 x17_1).f0), .int .i64 ((rd_T37 l0 x17_1).f1), .int .i64 0, .int .i64 0, .int .i64 0]) ?_ 2 _ rfl; (with_reducible repeat (first | refine blk_drewN ?_ _ | refine blk_drew ?_ | refine blk_alloc ?_ _)); refine blk_put (cs := #[.int .i64 ((rd_T37 l0 x17_1).f0), .int .i64 0, .int .i64 0, .int .i64 0, .int .i64 0]) ?_ 1 _ rfl; (with_reducible repeat (first | refine blk_drewN ?_ _ | refine blk_drew ?_ | refine blk_alloc ?_ _)); refine blk_put (cs := #[.int .i64 0, .int .i64 0, .int .i64 0, .int .i64 0, .int .i64 0]) ?_ 0 _ rfl; (with_reducible repeat (first | refine blk_drewN ?_ _ | refine blk_drew ?_ | refine blk_alloc ?_ _)); exact BK654.out))⟩; have n2_ : Aside0 (Below w.heap.size w w23) := ⟨(by rw [hw]; exact (by repeat (first | (with_reducible first | exact HB.out | apply below_alloc | apply pw_below_drewN | apply below_drew1 | refine below_set ?_ GE654.out) | exact HB.out)))⟩; clear hw; clear HO_7; clear BK654; clear HB; have HO_7 := n0_; have BK654 := n1_; have HB := n2_; clear n0_ n1_ n2_; have hcz24_0 : w23.cell? ⟨gb654, 0, none⟩ = some (.int .i64 ((rd_T37 l0 x17_1).f0)) := (blk_cell BK654.out 0).trans rfl; have hcz24_1 : w23.cell? ⟨gb654, 1, none⟩ = some (.int .i64 ((rd_T37 l0 x17_1).f1)) := (blk_cell BK654.out 1).trans rfl; have hcz24_2 : w23.cell? ⟨gb654, 2, none⟩ = some (.int .i64 ((rd_T37 l0 x17_1).f2)) := (blk_cell BK654.out 2).trans rfl; have hcz24_3 : w23.cell? ⟨gb654, 3, none⟩ = some (.int .i64 ((rd_T37 l0 x17_1).f3)) := (blk_cell BK654.out 3).trans rfl; have hcz24_4 : w23.cell? ⟨gb654, 4, none⟩ = some (.int .i64 ((rd_T37 l0 x17_1).f4)) := (blk_cell BK654.out 4).trans rfl; have hfz24_0 := blk_frozen BK654.out 0; have hfz24_1 := blk_frozen BK654.out 1; have hfz24_2 := blk_frozen BK654.out 2; have hfz24_3 := blk_frozen BK654.out 3; have hfz24_4 := blk_frozen BK654.out 4) | ((with_reducible refine gate_callee (f := 86) rfl ?_); refine goesL_ (some 34) rfl rfl Try.func86 (by kernel_rfl) rfl #[.int .i64 ((rd_T37 l0 x17_1).f4), .int .i64 ji8, .int .i64 ((rd_T37 l0 x17_1).f3)] rfl (by (try simp only [List.map_toArray, List.map_cons, List.map_nil]); first | done | (simp only [hji8]; rfl) | rfl | (simp only [List.length_drop, List.length_take]; rfl)) ?_; (with_reducible refine (impl_MulDiv.calls k1 ((rd_T37 l0 x17_1).f4) ji8 ((rd_T37 l0 x17_1).f3) t655 t656 t657 _ A9.out).mono ?_); rintro e w' ⟨rfl, ⟨nd, rfl⟩⟩; refine ⟨_, rfl, ?_⟩))
       go_roundg k1
       case measure => have := HK1.out; omega
       case rel => exact ⟨(wrap64 (x1_1 - (ji8))), (wrap64 (x6_1 + t655)), (x7_1), (wrap64 (x17_1 + 1)), (by first | rfl | (simp; done) | (simp only [← hji8] <;> (first | rfl | simp)) | (simp [*]; done)), (by first | rfl | (simp; done) | (simp [*]; done)), (by first | rfl | (simp; done) | (simp [*]; done)), H', ⟨by have := HK1.out; omega⟩, ⟨by (with_reducible repeat (first | apply Kd.R_alloc | apply Kd.R_drewN | apply Kd.R_drew)); exact Kd.R_mono HO_7.out (fun _ hk => trivial)⟩, ⟨by repeat (first | (with_reducible first | exact HB.out | apply below_alloc | apply pw_below_drewN | apply below_drew1 | refine below_set ?_ GE654.out) | exact HB.out)⟩⟩
     ·
      rw [if_neg c7] at H
      exact absurd H (by simp)
    ·
     rw [if_neg c6] at H
     exact absurd H (by simp)
   ·
    rw [if_neg c5] at H
    have c5b0 : decide (x17_1 < (l0.length : Int)) = false := decide_eq_false c5
    clear c5
    simp only [Option.some.injEq, Prod.mk.injEq] at H
    obtain ⟨rfl, rfl⟩ := H
    go_wp2
    go_ret2
    exact ⟨_, by first | rfl | (simp [errW_none, errW_some] <;> rfl) | (simp [*, errW_none, errW_some] <;> rfl), by (with_reducible repeat (first | apply Kd.R_alloc | apply Kd.R_drewN | apply Kd.R_drew)); exact HO_7.out, bb_⟩
def impl_Lot_67.f (l0 : List (S37)) : Option (List (S37)) := if l0.length < 1048577 then some l0.reverse else none
instance impl_Lot_67.inh : Inhabited (S37) := ⟨z37⟩
def impl_Lot_67.enc (x : S37) : List Value := [.int .i64 x.f0, .int .i64 x.f1, .int .i64 x.f2, .int .i64 x.f3, .int .i64 x.f4]
theorem impl_Lot_67.one (x : S37) : ∀ v ∈ impl_Lot_67.enc x, v.oneCell' = true := by
 intro v hv
 simp [impl_Lot_67.enc] at hv
 rcases hv with rfl | rfl | rfl | rfl | rfl <;> rfl
set_option maxHeartbeats 4000000 in
theorem impl_Lot_67.calls (P0_ : Nat → Prop) (u9000_ : Value) (l0 : List (S37)) (r : List (S37)) (w0 w : World) (hB : Below w0.heap.size w0 w) (ho0 : Kd.R k37 37 w w0.heap.size P0_ u9000_ l0) (h : impl_Lot_67.f l0 = some r) :
 Calls Try.prog 67 #[u9000_] w fun e w' => e = .returned (.tuple #[]) ∧ Kd.R k37 37 w' w0.heap.size (fun k_ => (P0_ k_ ∨ w.heap.size ≤ k_)) u9000_ r ∧ Below w0.heap.size w0 w' ∧ Kept w w' (fun k_ => P0_ k_) := by
 unfold impl_Lot_67.f at h
 by_cases hh : l0.length < 1048577
 ·
  rw [if_pos hh] at h
  obtain rfl := Option.some.inj h
  clear h
  rcases IN.R_cases ho0 with ⟨hv, hx⟩ | ⟨g, c', hv⟩
  ·
   subst hx
   obtain ⟨A, c, hv2⟩ := Kd.R_slice ho0
   subst hv2
   have hcon := AnyQ.slices_Reverse_empty Try.reverseLot A c w
   change Calls Try.prog 67 _ _ _ at hcon
   refine hcon.mono ?_
   rintro e w' ⟨rfl, rfl⟩
   exact ⟨rfl, Kd.R_mono ho0 (fun k_ hk => .inl hk), hB, Kept.refl _ _⟩
  ·
   subst hv
   obtain ⟨n1, n2, n3, n4, n5, _⟩ := IN.R_raw delf37_flat ho0
   have hraw : DG.Raw impl_Lot_67.enc 5 37 c' g w l0 := DG.Raw.of_R delf37_flat ho0
   have hk : ∀ x : S37, (impl_Lot_67.enc x).length = 5 := fun _ => rfl
   have hcon := AnyQ.slices_Reverse Try.reverseLot 5 Try.isAgg37 Try.sizeOf37 impl_Lot_67.enc hk impl_Lot_67.one g 0 c' l0.toArray w (SO.Raw.holds hraw hk) (by rw [List.size_toArray]; omega)
   change Calls Try.prog 67 _ _ _ at hcon
   rw [List.size_toArray] at hcon
   refine hcon.mono ?_
   rintro e w' ⟨rfl, n, rfl⟩
   have hl : l0.reverse.length = l0.length := List.length_reverse
   have hraw2 := SO.Raw.sorted hraw hk hl n #[]
   have hR := hraw2.to_R (d := k37) delf37_flat rfl n4 n5 (by rw [hl]; exact n2) n3
   rw [hl] at hR
   have hgr := SO.grownBy_sorted (w := w) (g := g) (n := n) (os := #[]) (Sort.flatK impl_Lot_67.enc 5 l0.reverse.toArray)
   have ew : Sort.putRowK impl_Lot_67.enc 5 (Sort.ahead w n) g 0 l0.toArray.reverse = sortWorldK impl_Lot_67.enc 5 w g 0 n l0.reverse.toArray #[] := by
    unfold Go.Proofs.sortWorldK
    rw [List.reverse_toArray]
    simp [Sort.grow]
   rw [ew]
   exact ⟨rfl, Kd.R_mono hR (fun k_ hk => .inl hk), hB.grown hgr hB.size (fun k e => by cases e; exact n4), Kept.of_grown hgr (Kept.refl w _) (fun k e => by cases e; exact .inl n5)⟩
 ·
  rw [if_neg hh] at h
  cases h
def impl_meanLots.f (k : Nat) (l0 : List (S37)) (a1 : Int) : Option ((List (S37)) × Int) := (impl_sumLots.f k l0).bind fun bt661 => ((impl_MulDiv.f k bt661.2 a1 bt661.1).bind fun bt663 => (if bt661.1 = a1 then (some (([] : List (S37)), bt663.1)) else (if 0 < (l0.length : Int) then (some ((([(⟨(rd_T37 l0 0).f0, (rd_T37 l0 0).f1, (rd_T37 l0 0).f2, wrap64 (bt661.1 - a1), wrap64 (bt661.2 - bt663.1)⟩ : S37)] : List (S37))), bt663.1)) else (none))))
set_option maxHeartbeats 8000000 in
set_option maxRecDepth 100000 in
theorem impl_meanLots.calls (k : Nat) (A0 : Option Addr) (c0 : Nat) (l0 : List (S37)) (a1 : Int) (r1 : List (S37)) (r2 : Int) (w : World) (hr0 : Kd.C k37 w A0 l0.length l0) (hc0 : l0.length ≤ c0) (h : impl_meanLots.f k l0 a1 = some (r1, r2)) :
 Calls Try.prog 68 #[.slice A0 l0.length c0, .int .i64 a1] w fun e w' => ∃ v0_ : Value, e = .returned (.tuple #[v0_, .int .i64 r2]) ∧ Kd.R k37 37 w' w.heap.size (fun _ => True) v0_ r1 ∧ Below w.heap.size w w' := by
 have hu37 := Try.underlying37
 have HR0 := Aside0.mk hr0
 have HC0 := Aside0.mk hc0
 clear hr0 hc0
 have HB := Aside0.mk (Below.refl w.heap.size w)
 have H : ((impl_sumLots.f k l0).bind fun bt661 => ((impl_MulDiv.f k bt661.2 a1 bt661.1).bind fun bt663 => (if bt661.1 = a1 then (some (([] : List (S37)), bt663.1)) else (if 0 < (l0.length : Int) then (some ((([(⟨(rd_T37 l0 0).f0, (rd_T37 l0 0).f1, (rd_T37 l0 0).f2, wrap64 (bt661.1 - a1), wrap64 (bt661.2 - bt663.1)⟩ : S37)] : List (S37))), bt663.1)) else (none))))) = some (r1, r2) := h
 clear h
 replace H := Option.bind_eq_some_iff.mp H
 obtain ⟨⟨t661, t662⟩, A30, H⟩ := H
 replace H : ((impl_MulDiv.f k t662 a1 t661).bind fun bt663 => (if t661 = a1 then (some (([] : List (S37)), bt663.1)) else (if 0 < (l0.length : Int) then (some ((([(⟨(rd_T37 l0 0).f0, (rd_T37 l0 0).f1, (rd_T37 l0 0).f2, wrap64 (t661 - a1), wrap64 (t662 - bt663.1)⟩ : S37)] : List (S37))), bt663.1)) else (none)))) = some (r1, r2) := H
 have A3 := Aside0.mk A30
 clear A30
 replace H := Option.bind_eq_some_iff.mp H
 obtain ⟨⟨t663, t664, t665⟩, A40, H⟩ := H
 replace H : (if t661 = a1 then (some (([] : List (S37)), t663)) else (if 0 < (l0.length : Int) then (some ((([(⟨(rd_T37 l0 0).f0, (rd_T37 l0 0).f1, (rd_T37 l0 0).f2, wrap64 (t661 - a1), wrap64 (t662 - t663)⟩ : S37)] : List (S37))), t663)) else (none))) = some (r1, r2) := H
 have A4 := Aside0.mk A40
 clear A40
 by_cases c5 : t661 = a1
 ·
  rw [if_pos c5] at H
  have c5b0 : (t661 == a1) = true := beq_iff_eq.mpr c5
  have c5b1 : (t661 != a1) = false := bne_eq_false_iff_eq.mpr c5
  clear c5
  simp only [Option.some.injEq, Prod.mk.injEq] at H
  obtain ⟨rfl, rfl⟩ := H
  go_enter Try.func68, Try.ntmps68
  go_wp2_with (first | ((with_reducible refine gate_callee (f := 46) rfl ?_); refine goesL_ (some 14) rfl rfl Try.func46 (by kernel_rfl) rfl #[.slice A0 l0.length c0] rfl (by (try simp only [List.map_toArray, List.map_cons, List.map_nil]); first | done | rfl | (simp only [List.length_drop, List.length_take]; rfl)) ?_; (with_reducible refine (impl_sumLots.calls k _ _ l0 t661 t662 _ ?side1 ?side2 A3.out).mono ?_); (case side1 => repeat (first | exact HR0.out | (with_reducible refine Kd.C_alloc ?_ _) | (with_reducible refine Kd.C_drewN ?_ _) | (with_reducible refine Kd.C_drew ?_))); (case side2 => exact HC0.out); rintro e w6 ⟨rfl, hb⟩; refine ⟨_, rfl, ?_⟩; have n0_ := Aside0.mk (below_step (bb_) hb); clear HB; have HB := n0_; clear n0_; (try clear hb); (try clear hb2); (try clear hk); (try clear hi)) | ((with_reducible refine gate_callee (f := 86) rfl ?_); refine goesL_ (some 21) rfl rfl Try.func86 (by kernel_rfl) rfl #[.int .i64 t662, .int .i64 a1, .int .i64 t661] rfl (by (try simp only [List.map_toArray, List.map_cons, List.map_nil]); first | done | rfl | (simp only [List.length_drop, List.length_take]; rfl)) ?_; (with_reducible refine (impl_MulDiv.calls k t662 a1 t661 t663 t664 t665 _ A4.out).mono ?_); rintro e w' ⟨rfl, ⟨nd, rfl⟩⟩; refine ⟨_, rfl, ?_⟩))
  go_ret2
  exact ⟨_, by first | rfl | (simp [errW_none, errW_some] <;> rfl) | (simp [*, errW_none, errW_some] <;> rfl), by first | exact Kd.R_nil _ _ _ _ _ | exact Kd.N_nil _ _ _ _ _ | exact Kd.V_nil _ _ _ _ _ | exact Kd.Q_nil _ _ _ _ _ | exact Kd.S_nil _ _ _ _ _, bb_⟩
 ·
  rw [if_neg c5] at H
  have c5b0 : (t661 == a1) = false := beq_eq_false_iff_ne.mpr c5
  have c5b1 : (t661 != a1) = true := bne_iff_ne.mpr c5
  by_cases c7 : 0 < (l0.length : Int)
  ·
   rw [if_pos c7] at H
   have c7b0 : decide (0 < (l0.length : Int)) = true := decide_eq_true c7
   have c7b1 : decide (0 < l0.length) = true := decide_eq_true (by omega)
   clear c7
   obtain ⟨y668, hy668⟩ : ∃ y_ : List (S37), y_ = (([(⟨(rd_T37 l0 0).f0, (rd_T37 l0 0).f1, (rd_T37 l0 0).f2, wrap64 (t661 - a1), wrap64 (t662 - t663)⟩ : S37)] : List (S37))) := ⟨_, rfl⟩
   replace H : (some (y668, t663)) = some (r1, r2) := by first | (rw [hy668]; with_reducible exact H) | (have H2_ := (Option.bind_some _ _).symm.trans H; rw [hy668]; with_reducible exact H2_) | (have H2_ := (Option.bind_some _ _).symm.trans H; with_reducible exact H2_) | with_reducible exact H | (rw [hy668]; exact H) | exact H
   have Ny668 := Aside0.mk hy668
   clear hy668
   simp only [Option.some.injEq, Prod.mk.injEq] at H
   obtain ⟨rfl, rfl⟩ := H
   go_enter Try.func68, Try.ntmps68
   go_wp2_with (first | ((with_reducible refine gate_callee (f := 46) rfl ?_); refine goesL_ (some 14) rfl rfl Try.func46 (by kernel_rfl) rfl #[.slice A0 l0.length c0] rfl (by (try simp only [List.map_toArray, List.map_cons, List.map_nil]); first | done | rfl | (simp only [List.length_drop, List.length_take]; rfl)) ?_; (with_reducible refine (impl_sumLots.calls k _ _ l0 t661 t662 _ ?side1 ?side2 A3.out).mono ?_); (case side1 => repeat (first | exact HR0.out | (with_reducible refine Kd.C_alloc ?_ _) | (with_reducible refine Kd.C_drewN ?_ _) | (with_reducible refine Kd.C_drew ?_))); (case side2 => exact HC0.out); rintro e w8 ⟨rfl, hb⟩; refine ⟨_, rfl, ?_⟩; have n0_ := Aside0.mk (below_step (bb_) hb); clear HB; have HB := n0_; clear n0_; (try clear hb); (try clear hb2); (try clear hk); (try clear hi)) | ((with_reducible refine gate_callee (f := 86) rfl ?_); refine goesL_ (some 21) rfl rfl Try.func86 (by kernel_rfl) rfl #[.int .i64 t662, .int .i64 a1, .int .i64 t661] rfl (by (try simp only [List.map_toArray, List.map_cons, List.map_nil]); first | done | rfl | (simp only [List.length_drop, List.length_take]; rfl)) ?_; (with_reducible refine (impl_MulDiv.calls k t662 a1 t661 t663 t664 t665 _ A4.out).mono ?_); rintro e w' ⟨rfl, ⟨nd, rfl⟩⟩; refine ⟨_, rfl, ?_⟩; (try (rw [drewN_self w8]; generalize hq_ : World.drewN w8 _ = w8; have n0_ : Aside0 (Below w.heap.size w w8) := ⟨by rw [← hq_]; exact (bb_)⟩; clear HB hq_; have HB := n0_; clear n0_)); have p666 : 0 ≤ (0 : Int) := (by omega); have q666 : 0 < (l0.length : Int) := of_decide_eq_true (by first | (with_reducible assumption) | assumption); obtain ⟨ad666, e666, hx666_0, hx666_1, hx666_2, hx666_3, hx666_4⟩ := at_T37 HR0.out 0 p666 q666; cases e666; have qi666 : (0 < l0.length) = True := eq_true (by omega); (try rw [show ((0 : Int)).toNat = 0 from rfl] at hx666_0); (try rw [show 0 * 5 = 0 from rfl] at hx666_0); (try rw [Addr.add_zero'] at hx666_0); (try rw [show ((0 : Int)).toNat = 0 from rfl] at hx666_1); (try rw [show 0 * 5 = 0 from rfl] at hx666_1); (try rw [Addr.add_zero'] at hx666_1); (try rw [show ((0 : Int)).toNat = 0 from rfl] at hx666_2); (try rw [show 0 * 5 = 0 from rfl] at hx666_2); (try rw [Addr.add_zero'] at hx666_2); (try rw [show ((0 : Int)).toNat = 0 from rfl] at hx666_3); (try rw [show 0 * 5 = 0 from rfl] at hx666_3); (try rw [Addr.add_zero'] at hx666_3); (try rw [show ((0 : Int)).toNat = 0 from rfl] at hx666_4); (try rw [show 0 * 5 = 0 from rfl] at hx666_4); (try rw [Addr.add_zero'] at hx666_4); replace hx666_0 := (HB.out.cell (World.block_lt_of_cell? w _ hx666_0)).trans hx666_0; replace hx666_1 := (HB.out.cell (World.block_lt_of_cell? w _ hx666_1)).trans hx666_1; replace hx666_2 := (HB.out.cell (World.block_lt_of_cell? w _ hx666_2)).trans hx666_2; replace hx666_3 := (HB.out.cell (World.block_lt_of_cell? w _ hx666_3)).trans hx666_3; replace hx666_4 := (HB.out.cell (World.block_lt_of_cell? w _ hx666_4)).trans hx666_4; replace p666 := eq_true p666; replace q666 := eq_true q666) | ((with_reducible refine gate_dst (N := 11) rfl ?_); refine box_event ?hg (N := 11) ?hd (cs := #[.int .i64 0, .int .i64 0, .int .i64 0, .int .i64 0, .int .i64 0]) (t := 37) ?hr ?_; (case hd => rfl); (case hg => rfl); (case hr => first | (go_simp; done) | (go_simp; rfl)); intro gb667 hg w9 hbox hb; have n0_ := Aside0.mk (below_step (bb_) hb); have n1_ := Aside0.mk (hbox); have n2_ := Aside0.mk ((by rw [hg]; exact (below_size (bb_)) : w.heap.size ≤ gb667)); have n3_ := Aside0.mk ((by rw [hg]; exact (below_size (bb_)) : w.heap.size ≤ gb667)); clear HB; have HB := n0_; have BK667 := n1_; have GW667 := n2_; have GE667 := n3_; clear n0_ n1_ n2_ n3_; clear hb hbox hg; have hcz10_0 : w9.cell? ⟨gb667, 0, none⟩ = some (.int .i64 0) := (blk_cell BK667.out 0).trans rfl; have hcz10_1 : w9.cell? ⟨gb667, 1, none⟩ = some (.int .i64 0) := (blk_cell BK667.out 1).trans rfl; have hcz10_2 : w9.cell? ⟨gb667, 2, none⟩ = some (.int .i64 0) := (blk_cell BK667.out 2).trans rfl; have hcz10_3 : w9.cell? ⟨gb667, 3, none⟩ = some (.int .i64 0) := (blk_cell BK667.out 3).trans rfl; have hcz10_4 : w9.cell? ⟨gb667, 4, none⟩ = some (.int .i64 0) := (blk_cell BK667.out 4).trans rfl; have hfz10_0 := blk_frozen BK667.out 0; have hfz10_1 := blk_frozen BK667.out 1; have hfz10_2 := blk_frozen BK667.out 2; have hfz10_3 := blk_frozen BK667.out 3; have hfz10_4 := blk_frozen BK667.out 4) | ((with_reducible refine gate_store (t := 37) (p := 11) rfl ?_); refine store_event (t := 37) (p := 11) (v := ?vo_w11) (w1 := (((((w9.setCell ⟨gb667, 0, none⟩ (.int .i64 ((rd_T37 l0 0).f0))).setCell ⟨gb667, 1, none⟩ (.int .i64 ((rd_T37 l0 0).f1))).setCell ⟨gb667, 2, none⟩ (.int .i64 ((rd_T37 l0 0).f2))).setCell ⟨gb667, 3, none⟩ (.int .i64 ((rd_T37 l0 0).f3))).setCell ⟨gb667, 4, none⟩ (.int .i64 ((rd_T37 l0 0).f4)))) ?hg ?ho ?hn ?hr ?_; (case ho => rfl); (case hg => rfl); (case hn => rfl); (case hr => first | (go_simp; done) | (go_simp; rfl)); intro w11 hw; have n0_ : Aside0 (w11.heap[gb667]? = some (.cells #[.int .i64 ((rd_T37 l0 0).f0), .int .i64 ((rd_T37 l0 0).f1), .int .i64 ((rd_T37 l0 0).f2), .int .i64 ((rd_T37 l0 0).f3), .int .i64 ((rd_T37 l0 0).f4)] 37 (0, 0))) := ⟨(by rw [hw]; exact (by (with_reducible repeat (first | refine blk_drewN ?_ _ | refine blk_drew ?_ | refine blk_alloc ?_ _)); refine blk_put (cs := #[.int .i64 ((rd_T37 l0 0).f0), .int .i64 ((rd_T37 l0 0).f1), .int .i64 ((rd_T37 l0 0).f2), .int .i64 ((rd_T37 l0 0).f3), .int .i64 0]) ?_ 4 _ rfl; (with_reducible repeat (first | refine blk_drewN ?_ _ | refine blk_drew ?_ | refine blk_alloc ?_ _)); refine blk_put (cs := #[.int .i64 ((rd_T37 l0 0).f0), .int .i64 ((rd_T37 l0 0).f1), .int .i64 ((rd_T37 l0 0).f2), .int .i64 0, .int .i64 0]) ?_ 3 _ rfl; (with_reducible repeat (first | refine blk_drewN ?_ _ | refine blk_drew ?_ | refine blk_alloc ?_ _)); refine blk_put (cs := #[.int .i64 ((rd_T37 l0 0).f0), .int .i64 ((rd_T37 l0 0).f1), .int .i64 0, .int .i64 0, .int .i64 0]) ?_ 2 _ rfl; (with_reducible repeat (first | refine blk_drewN ?_ _ | refine blk_drew ?_ | refine blk_alloc ?_ _)); refine blk_put (cs := #[.int .i64 ((rd_T37 l0 0).f0), .int .i64 0, .int .i64 0, .int .i64 0, .int .i64 0]) ?_ 1 _ rfl; (with_reducible repeat (first | refine blk_drewN ?_ _ | refine blk_drew ?_ | refine blk_alloc ?_ _)); refine blk_put (cs := #[.int .i64 0, .int .i64 0, .int .i64 0, .int .i64 0, .int .i64 0]) ?_ 0 _ rfl; (with_reducible repeat (first | refine blk_drewN ?_ _ | refine blk_drew ?_ | refine blk_alloc ?_ _)); exact BK667.out))⟩; have n1_ : Aside0 (Below w.heap.size w w11) := ⟨(by rw [hw]; exact (by repeat (first | (with_reducible first | exact HB.out | apply below_alloc | apply pw_below_drewN | apply below_drew1 | refine below_set ?_ GE667.out) | exact HB.out)))⟩; clear hw; clear BK667; clear HB; have BK667 := n0_; have HB := n1_; clear n0_ n1_; have hcz12_0 : w11.cell? ⟨gb667, 0, none⟩ = some (.int .i64 ((rd_T37 l0 0).f0)) := (blk_cell BK667.out 0).trans rfl; have hcz12_1 : w11.cell? ⟨gb667, 1, none⟩ = some (.int .i64 ((rd_T37 l0 0).f1)) := (blk_cell BK667.out 1).trans rfl; have hcz12_2 : w11.cell? ⟨gb667, 2, none⟩ = some (.int .i64 ((rd_T37 l0 0).f2)) := (blk_cell BK667.out 2).trans rfl; have hcz12_3 : w11.cell? ⟨gb667, 3, none⟩ = some (.int .i64 ((rd_T37 l0 0).f3)) := (blk_cell BK667.out 3).trans rfl; have hcz12_4 : w11.cell? ⟨gb667, 4, none⟩ = some (.int .i64 ((rd_T37 l0 0).f4)) := (blk_cell BK667.out 4).trans rfl; have hfz12_0 := blk_frozen BK667.out 0; have hfz12_1 := blk_frozen BK667.out 1; have hfz12_2 := blk_frozen BK667.out 2; have hfz12_3 := blk_frozen BK667.out 3; have hfz12_4 := blk_frozen BK667.out 4) | ((with_reducible refine gate_store (t := 3) (p := 38) rfl ?_); refine store_event (t := 3) (p := 38) (v := ?vo_w13) (w1 := (w11.setCell ⟨gb667, 3, none⟩ (.int .i64 (wrap64 (t661 - a1))))) ?hg ?ho ?hn ?hr ?_; (case ho => rfl); (case hg => rfl); (case hn => rfl); (case hr => first | (go_simp; done) | (go_simp; rfl)); intro w13 hw; have n0_ : Aside0 (w13.heap[gb667]? = some (.cells #[.int .i64 ((rd_T37 l0 0).f0), .int .i64 ((rd_T37 l0 0).f1), .int .i64 ((rd_T37 l0 0).f2), .int .i64 (wrap64 (t661 - a1)), .int .i64 ((rd_T37 l0 0).f4)] 37 (0, 0))) := ⟨(by rw [hw]; exact (by (with_reducible repeat (first | refine blk_drewN ?_ _ | refine blk_drew ?_ | refine blk_alloc ?_ _)); refine blk_put (cs := #[.int .i64 ((rd_T37 l0 0).f0), .int .i64 ((rd_T37 l0 0).f1), .int .i64 ((rd_T37 l0 0).f2), .int .i64 ((rd_T37 l0 0).f3), .int .i64 ((rd_T37 l0 0).f4)]) ?_ 3 _ rfl; (with_reducible repeat (first | refine blk_drewN ?_ _ | refine blk_drew ?_ | refine blk_alloc ?_ _)); exact BK667.out))⟩; have n1_ : Aside0 (Below w.heap.size w w13) := ⟨(by rw [hw]; exact (by repeat (first | (with_reducible first | exact HB.out | apply below_alloc | apply pw_below_drewN | apply below_drew1 | refine below_set ?_ GE667.out) | exact HB.out)))⟩; clear hw; clear BK667; clear HB; have BK667 := n0_; have HB := n1_; clear n0_ n1_; have hcz14_0 : w13.cell? ⟨gb667, 0, none⟩ = some (.int .i64 ((rd_T37 l0 0).f0)) := (blk_cell BK667.out 0).trans rfl; have hcz14_1 : w13.cell? ⟨gb667, 1, none⟩ = some (.int .i64 ((rd_T37 l0 0).f1)) := (blk_cell BK667.out 1).trans rfl; have hcz14_2 : w13.cell? ⟨gb667, 2, none⟩ = some (.int .i64 ((rd_T37 l0 0).f2)) := (blk_cell BK667.out 2).trans rfl; have hcz14_3 : w13.cell? ⟨gb667, 3, none⟩ = some (.int .i64 (wrap64 (t661 - a1))) := (blk_cell BK667.out 3).trans rfl; have hcz14_4 : w13.cell? ⟨gb667, 4, none⟩ = some (.int .i64 ((rd_T37 l0 0).f4)) := (blk_cell BK667.out 4).trans rfl; have hfz14_0 := blk_frozen BK667.out 0; have hfz14_1 := blk_frozen BK667.out 1; have hfz14_2 := blk_frozen BK667.out 2; have hfz14_3 := blk_frozen BK667.out 3; have hfz14_4 := blk_frozen BK667.out 4) | ((with_reducible refine gate_store (t := 3) (p := 39) rfl ?_); refine store_event (t := 3) (p := 39) (v := ?vo_w15) (w1 := (w13.setCell ⟨gb667, 4, none⟩ (.int .i64 (wrap64 (t662 - t663))))) ?hg ?ho ?hn ?hr ?_; (case ho => rfl); (case hg => rfl); (case hn => rfl); (case hr => first | (go_simp; done) | (go_simp; rfl)); intro w15 hw; have n0_ : Aside0 (w15.heap[gb667]? = some (.cells #[.int .i64 ((rd_T37 l0 0).f0), .int .i64 ((rd_T37 l0 0).f1), .int .i64 ((rd_T37 l0 0).f2), .int .i64 (wrap64 (t661 - a1)), .int .i64 (wrap64 (t662 - t663))] 37 (0, 0))) := ⟨(by rw [hw]; exact (by (with_reducible repeat (first | refine blk_drewN ?_ _ | refine blk_drew ?_ | refine blk_alloc ?_ _)); refine blk_put (cs := #[.int .i64 ((rd_T37 l0 0).f0), .int .i64 ((rd_T37 l0 0).f1), .int .i64 ((rd_T37 l0 0).f2), .int .i64 (wrap64 (t661 - a1)), .int .i64 ((rd_T37 l0 0).f4)]) ?_ 4 _ rfl; (with_reducible repeat (first | refine blk_drewN ?_ _ | refine blk_drew ?_ | refine blk_alloc ?_ _)); exact BK667.out))⟩; have n1_ : Aside0 (Below w.heap.size w w15) := ⟨(by rw [hw]; exact (by repeat (first | (with_reducible first | exact HB.out | apply below_alloc | apply pw_below_drewN | apply below_drew1 | refine below_set ?_ GE667.out) | exact HB.out)))⟩; clear hw; clear BK667; clear HB; have BK667 := n0_; have HB := n1_; clear n0_ n1_; have hcz16_0 : w15.cell? ⟨gb667, 0, none⟩ = some (.int .i64 ((rd_T37 l0 0).f0)) := (blk_cell BK667.out 0).trans rfl; have hcz16_1 : w15.cell? ⟨gb667, 1, none⟩ = some (.int .i64 ((rd_T37 l0 0).f1)) := (blk_cell BK667.out 1).trans rfl; have hcz16_2 : w15.cell? ⟨gb667, 2, none⟩ = some (.int .i64 ((rd_T37 l0 0).f2)) := (blk_cell BK667.out 2).trans rfl; have hcz16_3 : w15.cell? ⟨gb667, 3, none⟩ = some (.int .i64 (wrap64 (t661 - a1))) := (blk_cell BK667.out 3).trans rfl; have hcz16_4 : w15.cell? ⟨gb667, 4, none⟩ = some (.int .i64 (wrap64 (t662 - t663))) := (blk_cell BK667.out 4).trans rfl; have hfz16_0 := blk_frozen BK667.out 0; have hfz16_1 := blk_frozen BK667.out 1; have hfz16_2 := blk_frozen BK667.out 2; have hfz16_3 := blk_frozen BK667.out 3; have hfz16_4 := blk_frozen BK667.out 4) | ((with_reducible refine gate_dst (N := 41) rfl ?_); refine Kd.R_lit k37 _ 37 ?hg (N := 41) ?hd (xs := ([(⟨(rd_T37 l0 0).f0, (rd_T37 l0 0).f1, (rd_T37 l0 0).f2, wrap64 (t661 - a1), wrap64 (t662 - t663)⟩ : S37)] : List (S37))) (inner := [.int .i64 ((rd_T37 l0 0).f0), .int .i64 ((rd_T37 l0 0).f1), .int .i64 ((rd_T37 l0 0).f2), .int .i64 (wrap64 (t661 - a1)), .int .i64 (wrap64 (t662 - t663))]) (ok := fun _ => True) (okp := fun _ => True) ?hr ?hp (fun _ hk => hk) trivial (Below.refl _ _) (Nat.le_refl _) (by simp) ?_; (case hd => rfl); (case hg => rfl); (case hr => first | (go_simp; done) | (go_simp; rfl)); (case hp => exact (Reps.c5 (show Kd.M k37 _ _ _ (⟨(rd_T37 l0 0).f0, (rd_T37 l0 0).f1, (rd_T37 l0 0).f2, wrap64 (t661 - a1), wrap64 (t662 - t663)⟩ : S37) [.int .i64 ((rd_T37 l0 0).f0), .int .i64 ((rd_T37 l0 0).f1), .int .i64 ((rd_T37 l0 0).f2), .int .i64 (wrap64 (t661 - a1)), .int .i64 (wrap64 (t662 - t663))] from (k37_mkM _ _ _ (⟨(rd_T37 l0 0).f0, (rd_T37 l0 0).f1, (rd_T37 l0 0).f2, wrap64 (t661 - a1), wrap64 (t662 - t663)⟩ : S37) )) (Reps.none _ _))); intro v669 w17 ho18 hb hg_ hnew_; clear hg_ hnew_; (first | rw [← Ny668.out] at ho18 | (simp only [Int.reduceToNat] at ho18; rw [← Ny668.out] at ho18)); have n0_ := Aside0.mk (Kd.R_lower (Kd.R_newB ho18 (g := gb667) (o := .cells #[.int .i64 ((rd_T37 l0 0).f0), .int .i64 ((rd_T37 l0 0).f1), .int .i64 ((rd_T37 l0 0).f2), .int .i64 (wrap64 (t661 - a1)), .int .i64 (wrap64 (t662 - t663))] 37 (0, 0)) (by (with_reducible repeat (first | refine blk_drewN ?_ _ | refine blk_drew ?_ | refine blk_alloc ?_ _)); exact BK667.out)) (below_size (by repeat (first | (with_reducible first | exact HB.out | apply below_alloc | apply pw_below_drewN | apply below_drew1 | refine below_set ?_ GE667.out) | exact HB.out)))); have n1_ := Aside0.mk (blk_below (g := gb667) (o := .cells #[.int .i64 ((rd_T37 l0 0).f0), .int .i64 ((rd_T37 l0 0).f1), .int .i64 ((rd_T37 l0 0).f2), .int .i64 (wrap64 (t661 - a1)), .int .i64 (wrap64 (t662 - t663))] 37 (0, 0)) (by (with_reducible repeat (first | refine blk_drewN ?_ _ | refine blk_drew ?_ | refine blk_alloc ?_ _)); exact BK667.out) hb); have n2_ := Aside0.mk (below_step (by repeat (first | (with_reducible first | exact HB.out | apply below_alloc | apply pw_below_drewN | apply below_drew1 | refine below_set ?_ GE667.out) | exact HB.out)) hb); clear BK667; clear HB; have HO670 := n0_; have BK667 := n1_; have HB := n2_; clear n0_ n1_ n2_; clear hb ho18))
   go_ret2
   exact ⟨_, by first | rfl | (simp [errW_none, errW_some] <;> rfl) | (simp [*, errW_none, errW_some] <;> rfl), by (with_reducible repeat (first | apply Kd.R_alloc | apply Kd.R_drewN | apply Kd.R_drew)); exact Kd.R_mono HO670.out (fun _ hk => trivial), by repeat (first | (with_reducible first | exact HB.out | apply below_alloc | apply pw_below_drewN | apply below_drew1 | refine below_set ?_ GE667.out) | exact HB.out)⟩
  ·
   rw [if_neg c7] at H
   exact absurd H (by simp)
instance : Inhabited (S37) := ⟨z37⟩
def impl_withLots.enc (x : S37) : List Value := [.int .i64 x.f0, .int .i64 x.f1, .int .i64 x.f2, .int .i64 x.f3, .int .i64 x.f4]
def impl_withLots.rest (l : List (S37)) (a b : Int) : List (S37) := l.filter fun x => !decide (x.f0 = a ∧ x.f1 = b)
def impl_withLots.srt (l : List (S37)) : List (S37) := l.mergeSort fun x y => !decide (impl_LotsOk.cmp y x < 0)
def impl_withLots.uniq (l : List (S37)) : Prop := ∀ x ∈ l, ∀ y ∈ l, x.f0 = y.f0 ∧ x.f1 = y.f1 ∧ x.f2 = y.f2 → x.f3 = y.f3 ∧ x.f4 = y.f4
instance (l : List (S37)) : Decidable (impl_withLots.uniq l) := by unfold impl_withLots.uniq; exact inferInstance
def impl_withLots.f (l0 : List (S37)) (a1 a2 : Int) (l3 : List (S37)) : Option (List (S37)) := if l0.length < 1048577 ∧ l3.length < 1048577 ∧ impl_withLots.uniq (impl_withLots.rest l0 a1 a2 ++ l3) then some (impl_withLots.srt (impl_withLots.rest l0 a1 a2 ++ l3)) else none
theorem impl_withLots.cmp_iff (x y : S37) : impl_LotsOk.cmp x y < 0 ↔ (x.f0 < y.f0 ∨ (x.f0 = y.f0 ∧ (x.f1 < y.f1 ∨ (x.f1 = y.f1 ∧ x.f2 < y.f2)))) := by
 unfold impl_LotsOk.cmp
 by_cases h0 : x.f0 < y.f0
 ·
  rw [if_pos h0]; omega
 ·
  rw [if_neg h0]
  by_cases h1 : y.f0 < x.f0
  ·
   rw [if_pos h1]; omega
  ·
   rw [if_neg h1]
   by_cases h2 : x.f1 < y.f1
   ·
    rw [if_pos h2]; omega
   ·
    rw [if_neg h2]
    by_cases h3 : y.f1 < x.f1
    ·
     rw [if_pos h3]; omega
    ·
     rw [if_neg h3]
     by_cases h4 : x.f2 < y.f2
     ·
      rw [if_pos h4]; omega
     ·
      rw [if_neg h4]
      by_cases h5 : y.f2 < x.f2
      ·
       rw [if_pos h5]; omega
      ·
       rw [if_neg h5]; omega
theorem impl_withLots.lt_ (x y : S37) : ltOf impl_LotsOk.cmp x y = decide (x.f0 < y.f0 ∨ (x.f0 = y.f0 ∧ (x.f1 < y.f1 ∨ (x.f1 = y.f1 ∧ x.f2 < y.f2)))) := by
 unfold ltOf
 rw [Bool.eq_iff_iff, decide_eq_true_iff, decide_eq_true_iff]
 exact impl_withLots.cmp_iff x y
theorem impl_withLots.swo : Sort.SWO (ltOf impl_LotsOk.cmp) where
 irrefl x := by rw [impl_withLots.lt_, decide_eq_false_iff_not]; omega
 trans x y z h1 h2 := by rw [impl_withLots.lt_, decide_eq_true_iff] at *; omega
 ntrans x y z h1 h2 := by rw [impl_withLots.lt_, decide_eq_false_iff_not] at *; omega
set_option maxHeartbeats 8000000 in
set_option maxRecDepth 100000 in
theorem impl_withLots.bef (x y : S37) (W : World) : Calls Try.prog 43 #[.agg #[.int .i64 x.f0, .int .i64 x.f1, .int .i64 x.f2, .int .i64 x.f3, .int .i64 x.f4], .agg #[.int .i64 y.f0, .int .i64 y.f1, .int .i64 y.f2, .int .i64 y.f3, .int .i64 y.f4]] W fun e w' => e = .returned (.int .i64 (impl_LotsOk.cmp x y)) ∧ ∃ q os', w' = Sort.grow (W.drewN q) os' := by
 have H0 := impl_LotsOk.cmp_ x y
 unfold impl_lotBefore.f at H0
 replace H0 := Option.bind_eq_some_iff.mp H0
 obtain ⟨t, ht, H0⟩ := H0
 have HT := Aside0.mk ht
 clear ht
 generalize impl_LotsOk.cmp x y = r at H0 ⊢
 by_cases h0 : t = 0
 ·
  rw [if_pos h0] at H0
  subst h0
  by_cases h1 : x.f2 < y.f2
  ·
   rw [if_pos h1] at H0
   obtain rfl := Option.some.inj H0
   have c1 : decide (x.f2 < y.f2) = true := decide_eq_true h1
   clear H0 h1
   go_enter Try.func43, Try.ntmps43
   go_wp2_with (go_at_call 77; refine (impl_byBoth.calls 1 _ _ _ _ _ _ HT.out).mono ?_; rintro e w' ⟨rfl, ⟨nd, rfl⟩⟩)
   go_ret
   exact ⟨by first | rfl | (simp; done) | (simp [*]; done), _, _, SO.alloc2_grow _ _ _ _⟩
  ·
   rw [if_neg h1] at H0
   have c1 : decide (x.f2 < y.f2) = false := decide_eq_false h1
   by_cases h2 : x.f2 > y.f2
   ·
    rw [if_pos h2] at H0
    obtain rfl := Option.some.inj H0
    have c2 : decide (y.f2 < x.f2) = true := decide_eq_true h2
    clear H0 h1 h2
    go_enter Try.func43, Try.ntmps43
    go_wp2_with (go_at_call 77; refine (impl_byBoth.calls 1 _ _ _ _ _ _ HT.out).mono ?_; rintro e w' ⟨rfl, ⟨nd, rfl⟩⟩)
    go_ret
    exact ⟨by first | rfl | (simp; done) | (simp [*]; done), _, _, SO.alloc2_grow _ _ _ _⟩
   ·
    rw [if_neg h2] at H0
    obtain rfl := Option.some.inj H0
    have c2 : decide (y.f2 < x.f2) = false := decide_eq_false h2
    clear H0 h1 h2
    go_enter Try.func43, Try.ntmps43
    go_wp2_with (go_at_call 77; refine (impl_byBoth.calls 1 _ _ _ _ _ _ HT.out).mono ?_; rintro e w' ⟨rfl, ⟨nd, rfl⟩⟩)
    go_ret
    exact ⟨by first | rfl | (simp; done) | (simp [*]; done), _, _, SO.alloc2_grow _ _ _ _⟩
 ·
  rw [if_neg h0] at H0
  obtain rfl := Option.some.inj H0
  have c1 : (t != 0) = true := bne_iff_ne.mpr h0
  have c2 : (t == 0) = false := beq_eq_false_iff_ne.mpr h0
  clear H0 h0
  go_enter Try.func43, Try.ntmps43
  go_wp2_with (go_at_call 77; refine (impl_byBoth.calls 1 _ _ _ _ _ _ HT.out).mono ?_; rintro e w' ⟨rfl, ⟨nd, rfl⟩⟩)
  go_ret
  exact ⟨by first | rfl | (simp; done) | (simp [*]; done), _, _, SO.alloc2_grow _ _ _ _⟩
theorem impl_withLots.one (x : S37) : ∀ v ∈ impl_withLots.enc x, v.oneCell' = true := by
 intro v hv
 simp [impl_withLots.enc] at hv
 rcases hv with rfl | rfl | rfl | rfl | rfl <;> rfl
theorem impl_withLots.anti {l : List (S37)} (hu : impl_withLots.uniq l) : ∀ x ∈ l, ∀ y ∈ l, ltOf impl_LotsOk.cmp x y = false → ltOf impl_LotsOk.cmp y x = false → x = y := by
 intro x hx y hy h1 h2
 rw [impl_withLots.lt_, decide_eq_false_iff_not] at h1 h2
 have h3 := hu x hx y hy ⟨by omega, by omega, by omega⟩
 have e0 : x.f0 = y.f0 := by omega
 have e1 : x.f1 = y.f1 := by omega
 have e2 : x.f2 = y.f2 := by omega
 cases x
 cases y
 simp only at h3 e0 e1 e2
 rw [e0, e1, e2, h3.1, h3.2]
set_option maxHeartbeats 4000000 in
theorem impl_withLots.sort_ (A : Option Addr) (c base : Nat) (ok : Nat → Prop) (xs : List (S37)) (w : World) (ho : Kd.R k37 37 w base ok (.slice A xs.length c) xs) (hl0 : xs.length < 4611686018427387904) (hu : impl_withLots.uniq xs) :
 Calls Try.prog 88 #[.slice A xs.length c, .func (.func 43) #[] #[]] w fun e w' => e = .returned (.tuple #[]) ∧ Kd.R k37 37 w' base ok (.slice A xs.length c) (impl_withLots.srt xs) ∧ w.grownBy w' (Value.slice A xs.length c).ownBlock := by
 rcases IN.R_cases ho with ⟨hv, hx⟩ | ⟨g, c', hv⟩
 ·
  subst hx
  have hcon := AnyF.slices_SortFunc_none Try.sortLot A c (.func (.func 43) #[] #[]) w
  change Calls Try.prog 88 _ _ _ at hcon
  refine hcon.mono ?_
  rintro e w' ⟨rfl, rfl⟩
  exact ⟨rfl, by simpa [impl_withLots.srt] using ho, World.grownBy.refl _ _⟩
 ·
  injection hv with hA hn hc
  subst hA
  subst hc
  obtain ⟨n1, n2, n3, n4, n5, _⟩ := IN.R_raw delf37_flat ho
  have hraw : DG.Raw impl_withLots.enc 5 37 c g w xs := DG.Raw.of_R delf37_flat ho
  have hk : ∀ x : S37, (impl_withLots.enc x).length = 5 := fun _ => rfl
  have eg : ∀ args w, (callFunc 43 args).run Try.prog w = .ok (.enter 43 args) w := Go.Proofs.enters_of Try.func43 (by kernel_rfl) rfl
  have hcon := AnyQ.slices_SortFunc Try.sortLot 5 Try.isAgg37 Try.sizeOf37 impl_withLots.enc hk impl_withLots.one impl_LotsOk.cmp impl_withLots.swo 43 #[] g 0 c xs.toArray w eg (fun _ _ _ _ x y => impl_withLots.bef x y _) (SO.Raw.holds hraw hk) hraw.lt (by rw [List.size_toArray]; exact hl0)
  change Calls Try.prog 88 _ _ _ at hcon
  rw [List.size_toArray] at hcon
  refine hcon.mono ?_
  rintro e w' ⟨rfl, d', n, os, hp, hs, rfl⟩
  have e1 : d'.toList = impl_withLots.srt xs := by
   have h1 := SO.sorted_one impl_withLots.swo xs.toArray d' (by simpa using impl_withLots.anti hu) (by simpa using hp) (by simpa using hs)
   exact h1
  have e2 : d' = (impl_withLots.srt xs).toArray := by rw [← e1]
  have hl : (impl_withLots.srt xs).length = xs.length := List.length_mergeSort _
  rw [e2]
  have hraw2 := SO.Raw.sorted hraw hk hl n os
  have hR := hraw2.to_R (d := k37) delf37_flat rfl n4 n5 (by rw [hl]; exact n2) n3
  rw [hl] at hR
  exact ⟨rfl, hR, SO.grownBy_sorted _⟩
set_option maxHeartbeats 8000000 in
set_option maxRecDepth 100000 in
theorem impl_withLots.clo (B1 B2 : Nat) (a1 a2 : Int) (x : S37) (W : World) (h1 : W.cell? ⟨B1, 0, none⟩ = some (.int .i64 a1)) (h2 : W.cell? ⟨B2, 0, none⟩ = some (.int .i64 a2)) :
 Calls Try.prog 87 #[.agg #[.int .i64 x.f0, .int .i64 x.f1, .int .i64 x.f2, .int .i64 x.f3, .int .i64 x.f4], .pointer (some ⟨B1, 0, none⟩), .pointer (some ⟨B2, 0, none⟩)] W fun e W' => e = .returned (.bool (decide (x.f0 = a1 ∧ x.f1 = a2))) ∧ Below W.heap.size W W' := by
 have HB := Aside0.mk (Below.refl W.heap.size W)
 have HI := Aside0.mk (impl_lotsOf.is_ x a1 a2)
 obtain ⟨q, hq⟩ : ∃ q, decide (x.f0 = a1 ∧ x.f1 = a2) = q := ⟨_, rfl⟩
 rw [hq] at HI ⊢
 clear hq
 have HQ := Aside0.mk (show ∀ W2, Below W.heap.size W W2 → Calls Try.prog 81 #[.agg #[.int .i64 x.f0, .int .i64 x.f1, .int .i64 x.f2, .int .i64 x.f3, .int .i64 x.f4], .int .i64 a1, .int .i64 a2] W2 fun e W' => e = .returned (.bool q) ∧ Below W2.heap.size W2 W' from fun W2 _ => impl_isLot.calls _ _ _ _ _ _ _ q W2 HI.out)
 have g1 := Lib.cell?_alloc_some (.cells #[.int .i64 x.f0, .int .i64 x.f1, .int .i64 x.f2, .int .i64 x.f3, .int .i64 x.f4] 37 (0, 0)) h1
 have g2 := Lib.cell?_alloc_some (.cells #[.int .i64 x.f0, .int .i64 x.f1, .int .i64 x.f2, .int .i64 x.f3, .int .i64 x.f4] 37 (0, 0)) h2
 clear h1 h2
 go_enter Try.func87, Try.ntmps87
 go_wp2_with (go_at_call 81; refine (HQ.out _ (below_alloc HB.out _)).mono ?_; rintro e w6 ⟨rfl, hb6⟩; have HB6 := Aside0.mk hb6; clear hb6)
 all_goals
  go_ret
  exact ⟨by first | rfl | (simp; done) | (simp [*]; done), below_step (below_alloc HB.out _) HB6.out⟩
theorem impl_withLots.predB {B1 B2 : Nat} {a1 a2 : Int} {w : World} (c1 : w.cell? ⟨B1, 0, none⟩ = some (.int .i64 a1)) (c2 : w.cell? ⟨B2, 0, none⟩ = some (.int .i64 a2)) :
 X0.FnB Try.prog 87 #[.pointer (some ⟨B1, 0, none⟩), .pointer (some ⟨B2, 0, none⟩)] w (fun x : S37 => .agg #[.int .i64 x.f0, .int .i64 x.f1, .int .i64 x.f2, .int .i64 x.f3, .int .i64 x.f4]) (fun x => decide (x.f0 = a1 ∧ x.f1 = a2)) :=
 ⟨_, Try.func87, by kernel_rfl, rfl, fun x W hW => impl_withLots.clo B1 B2 a1 a2 x W ((hW.cell (World.block_lt_of_cell? w _ c1)).trans c1) ((hW.cell (World.block_lt_of_cell? w _ c2)).trans c2)⟩
theorem impl_withLots.predG {B1 B2 g : Nat} {a1 a2 : Int} {w : World} (c1 : w.cell? ⟨B1, 0, none⟩ = some (.int .i64 a1)) (c2 : w.cell? ⟨B2, 0, none⟩ = some (.int .i64 a2)) (n1 : B1 < g) (n2 : B2 < g) :
 DG.FnG Try.prog 87 #[.pointer (some ⟨B1, 0, none⟩), .pointer (some ⟨B2, 0, none⟩)] w g (fun x : S37 => .agg #[.int .i64 x.f0, .int .i64 x.f1, .int .i64 x.f2, .int .i64 x.f3, .int .i64 x.f4]) (fun x => decide (x.f0 = a1 ∧ x.f1 = a2)) :=
 ⟨_, Try.func87, by kernel_rfl, rfl, fun x W hW => impl_withLots.clo B1 B2 a1 a2 x W (hW.cell c1 (by simp; omega)) (hW.cell c2 (by simp; omega))⟩
set_option maxHeartbeats 8000000 in
set_option maxRecDepth 100000 in
theorem impl_withLots.calls (A0 : Option Addr) (c0 : Nat) (l0 : List (S37)) (a1 a2 : Int) (A3 : Option Addr) (c3 : Nat) (l3 : List (S37)) (r : List (S37)) (w : World) (hr0 : Kd.C k37 w A0 l0.length l0) (hc0 : l0.length ≤ c0) (hr3 : Kd.C k37 w A3 l3.length l3) (hc3 : l3.length ≤ c3) (h : impl_withLots.f l0 a1 a2 l3 = some r) :
 Calls Try.prog 69 #[.slice A0 l0.length c0, .int .i64 a1, .int .i64 a2, .slice A3 l3.length c3] w fun e w' => ∃ v0_ : Value, e = .returned (v0_) ∧ Kd.R k37 37 w' w.heap.size (fun _ => True) v0_ r ∧ Below w.heap.size w w' := by
 unfold impl_withLots.f at h
 by_cases hh : l0.length < 1048577 ∧ l3.length < 1048577 ∧ impl_withLots.uniq (impl_withLots.rest l0 a1 a2 ++ l3)
 ·
  rw [if_pos hh] at h
  obtain rfl := Option.some.inj h
  clear h
  have hcl : impl_Lot_55.f l0 = some l0 := by
   unfold impl_Lot_55.f
   rw [Option.bind_some, List.length_nil, if_pos (by omega), List.nil_append]
  have HC := Aside0.mk hcl
  have HR0 := Aside0.mk hr0
  have HC0 := Aside0.mk hc0
  have HR3 := Aside0.mk hr3
  have HC3 := Aside0.mk hc3
  have HB := Aside0.mk (Below.refl w.heap.size w)
  have HL := Aside0.mk hh.1
  have HL3 : Aside0 (((impl_withLots.rest l0 a1 a2).length + l3.length) * 40 ≤ 140737488355328) := ⟨by
   have h1 : (impl_withLots.rest l0 a1 a2).length ≤ l0.length := List.length_filter_le _ _
   omega⟩
  have HU := Aside0.mk hh.2.2
  have HF : Aside0 ((l0.filter fun x => !decide (x.f0 = a1 ∧ x.f1 = a2)) = impl_withLots.rest l0 a1 a2) := ⟨rfl⟩
  clear hr0 hc0 hr3 hc3 hcl hh
  generalize impl_withLots.rest l0 a1 a2 = l1 at HL3 HU HF ⊢
  have HL2 : Aside0 ((l1 ++ l3).length < 4611686018427387904) := ⟨by have := HL3.out; rw [List.length_append]; omega⟩
  obtain ⟨l2, hl2⟩ : ∃ l2, l1 ++ l3 = l2 := ⟨_, rfl⟩
  rw [hl2] at HU HL2 ⊢
  have HE := Aside0.mk hl2
  clear hl2
  go_enter Try.func69, Try.ntmps69
  have hsz := impl_lotsOf.up w (.cells #[.int .i64 a1] 3 (0, 0)) (.cells #[.int .i64 a2] 3 (0, 0))
  go_wp2_with (first | (go_at_call 55; refine (impl_Lot_55.calls A0 c0 l0 l0 _ (Kd.C_alloc (Kd.C_alloc HR0.out _) _) HC0.out HC.out).mono ?_; rintro e w5 ⟨v, rfl, ho, hb⟩; have HO := Aside0.mk ho; have HB5 := Aside0.mk hb; clear ho hb) | (go_at_call 79; refine (DeleteFunc_st37.calls _ _ v l0 87 #[.pointer (some ⟨w.heap.size, 0, none⟩), .pointer (some ⟨w.heap.size + 1, 0, none⟩)] (fun x => decide (x.f0 = a1 ∧ x.f1 = a2)) _ HO.out HL.out (impl_withLots.predB (impl_lotsOf.c1 HB5.out) (impl_lotsOf.c2 HB5.out)) (fun g _ hg => impl_withLots.predG (impl_lotsOf.c1 HB5.out) (impl_lotsOf.c2 HB5.out) (impl_lotsOf.lt1 hg) (impl_lotsOf.lt2 hg))).mono ?_; rintro e w6 ⟨v6, rfl, ho, hg⟩; have hb5 := below_step (below_alloc (below_alloc (Below.refl _ _) _) _) HB5.out; have HB6 := Aside0.mk (hb5.grown hg (below_size hb5) (fun k hk => Nat.le_trans hsz (impl_lotsOf.own HO.out k hk))); rw [HF.out] at ho; have HO6 := Aside0.mk (Kd.R_lower ho hsz); clear ho hg hb5) | ((with_reducible refine gate_builtin (b := .append) (xs := #[.tmp 14, .tmp 15]) rfl ?_); at_builtin; refine Kd.R_append_rows k37 (w0 := w) w.heap.size rfl (.tmp 14) (.tmp 15) 25 37 (.agg #[(.int .i64 0), (.int .i64 0), (.int .i64 0), (.int .i64 0), (.int .i64 0)]) 40 rfl Try.underlying25 info37 rfl (by decide) (by omega) v6 l1 l3 _ _ _ (fun _ => True) (fun _ => False) rfl rfl HO6.out (Kd.C_below HR3.out HB6.out) (fun _ _ h => h) (fun _ h => h.elim) (fun _ _ => trivial) HB6.out (below_size HB6.out) HL3.out ?_; intro v7 w7 ho hb hg hat; rw [HE.out] at ho; obtain ⟨A7, c7, rfl⟩ := Kd.R_slice ho; have HO7 := Aside0.mk ho; have HB7 := Aside0.mk hb; clear ho hb hg hat) | (go_at_call 88; refine (impl_withLots.sort_ A7 c7 _ _ l2 _ HO7.out HL2.out HU.out).mono ?_; rintro e w8 ⟨rfl, ho, hg⟩; have HO8 := Aside0.mk ho; have HG8 := Aside0.mk hg; clear ho hg))
  go_ret
  exact ⟨_, by first | rfl | (simp; done) | (simp [*]; done), HO8.out, HB7.out.grown HG8.out (below_size HB7.out) (fun k hk => impl_lotsOf.own HO7.out k hk)⟩
 ·
  rw [if_neg hh] at h
  cases h
end Go.Proofs.Ytomanpmffjkkgaa.P
namespace Go.Proofs.Ytomanpmffjkkgaa.P
open Go.RowKit Go.Proofs.YtomanpmffjkkgaaW.PrintWords Go.Proofs.YtomanpmffjkkgaaW.PrintLast Go.Proofs.YtomanpmffjkkgaaW.PrintMore
attribute [local go_sem] max2_int min2_int max_two min_two max_three min_three max_four min_four   -- for this text's walks alone
set_option linter.unusedVariables false
set_option linter.unusedSimpArgs false
def impl_LotTake.j0 : Nat → List (S37) → Int → Int → Int → Int → Bool → Option ((List (S37)) × Int × Int)
 | 0, _, _, _, _, _, _ => none
 | k + 1, x0, x1, x2, x3, x4, x30 => if x30 = true then (some (([] : List (S37)), 0, 1)) else ((impl_lotsOf.f x0 x1 x2).bind fun t674 => ((impl_sumLots.f k t674).bind fun bt677 => (if bt677.1 < x3 then ((impl_Lot_55.f x0).bind fun t679 => (some (t679, 0, 2))) else (if x4 = 1 then ((impl_takeLots.f k t674 x3).bind fun bt682 => ((impl_withLots.f x0 x1 x2 bt682.1).bind fun t686 => (some (t686, bt682.2, 0)))) else (if x4 = 2 then ((impl_Lot_67.f t674).bind fun t689 => ((impl_takeLots.f k t689 x3).bind fun bt690 => ((impl_withLots.f x0 x1 x2 bt690.1).bind fun t694 => (some (t694, bt690.2, 0))))) else (if x4 = 3 then ((impl_meanLots.f k t674 x3).bind fun bt697 => ((impl_withLots.f x0 x1 x2 bt697.1).bind fun t701 => (some (t701, bt697.2, 0)))) else ((impl_withLots.f x0 x1 x2 ([] : List (S37))).bind fun t704 => (some (t704, 0, 0)))))))))
def impl_LotTake.f (k : Nat) (l0 : List (S37)) (a1 : Int) (a2 : Int) (a3 : Int) (a4 : Int) : Option ((List (S37)) × Int × Int) := (impl_LotsOk.f l0).bind fun t671 => (if t671 = true then ((impl_in.f a3 1 1000000000000000).bind fun t672 => (if t672 = true then ((impl_in.f a4 1 3).bind fun t673 => (impl_LotTake.j0 k l0 a1 a2 a3 a4 (!t673))) else (impl_LotTake.j0 k l0 a1 a2 a3 a4 true))) else (impl_LotTake.j0 k l0 a1 a2 a3 a4 true))
set_option maxHeartbeats 8000000 in
set_option maxRecDepth 100000 in
theorem impl_LotTake.calls (k : Nat) (A0 : Option Addr) (c0 : Nat) (l0 : List (S37)) (a1 : Int) (a2 : Int) (a3 : Int) (a4 : Int) (r1 : List (S37)) (r2 : Int) (r3 : Int) (w : World) (hr0 : Kd.C k37 w A0 l0.length l0) (hc0 : l0.length ≤ c0) (h : impl_LotTake.f k l0 a1 a2 a3 a4 = some (r1, r2, r3)) :
 Calls Try.prog 34 #[.slice A0 l0.length c0, .int .i64 a1, .int .i64 a2, .int .i64 a3, .int .i64 a4] w fun e w' => ∃ v0_ : Value, e = .returned (.tuple #[v0_, .int .i64 r2, .int .i64 r3]) ∧ Kd.R k37 37 w' w.heap.size (fun _ => True) v0_ r1 ∧ Below w.heap.size w w' := by
 have HR0 := Aside0.mk hr0
 have HC0 := Aside0.mk hc0
 clear hr0 hc0
 have HB := Aside0.mk (Below.refl w.heap.size w)
 have H : ((impl_LotsOk.f l0).bind fun t671 => (if t671 = true then ((impl_in.f a3 1 1000000000000000).bind fun t672 => (if t672 = true then ((impl_in.f a4 1 3).bind fun t673 => (impl_LotTake.j0 k l0 a1 a2 a3 a4 (!t673))) else (impl_LotTake.j0 k l0 a1 a2 a3 a4 true))) else (impl_LotTake.j0 k l0 a1 a2 a3 a4 true))) = some (r1, r2, r3) := h
 clear h
 have HC6 := Aside0.mk H
 clear H
 go_enter Try.func34, Try.ntmps34
 go_upto_region 1 with (fail)
 go_cut [30] (fun v30 wc => ∃ (kq : Nat) (x30_5 : Bool), v30 = .bool x30_5 ∧ Aside0 (impl_LotTake.j0 kq l0 a1 a2 a3 a4 x30_5 = some (r1, r2, r3)) ∧ Aside0 (kq ≤ k) ∧ Aside0 (Below w.heap.size w wc))
 case first =>
  have H := HC6.out
  clear HC6
  replace H := Option.bind_eq_some_iff.mp H
  obtain ⟨t671, A70, H⟩ := H
  replace H : (if t671 = true then ((impl_in.f a3 1 1000000000000000).bind fun t672 => (if t672 = true then ((impl_in.f a4 1 3).bind fun t673 => (impl_LotTake.j0 k l0 a1 a2 a3 a4 (!t673))) else (impl_LotTake.j0 k l0 a1 a2 a3 a4 true))) else (impl_LotTake.j0 k l0 a1 a2 a3 a4 true)) = some (r1, r2, r3) := H
  have A7 := Aside0.mk A70
  clear A70
  by_cases c8 : t671 = true
  ·
   subst c8
   have H1 : ((impl_in.f a3 1 1000000000000000).bind fun t672 => (if t672 = true then ((impl_in.f a4 1 3).bind fun t673 => (impl_LotTake.j0 k l0 a1 a2 a3 a4 (!t673))) else (impl_LotTake.j0 k l0 a1 a2 a3 a4 true))) = some (r1, r2, r3) := by rw [if_pos rfl] at H; exact H
   clear H
   have H := H1
   clear H1
   replace H := Option.bind_eq_some_iff.mp H
   obtain ⟨t672, A90, H⟩ := H
   replace H : (if t672 = true then ((impl_in.f a4 1 3).bind fun t673 => (impl_LotTake.j0 k l0 a1 a2 a3 a4 (!t673))) else (impl_LotTake.j0 k l0 a1 a2 a3 a4 true)) = some (r1, r2, r3) := H
   have A9 := Aside0.mk A90
   clear A90
   by_cases c10 : t672 = true
   ·
    subst c10
    have H1 : ((impl_in.f a4 1 3).bind fun t673 => (impl_LotTake.j0 k l0 a1 a2 a3 a4 (!t673))) = some (r1, r2, r3) := by rw [if_pos rfl] at H; exact H
    clear H
    have H := H1
    clear H1
    replace H := Option.bind_eq_some_iff.mp H
    obtain ⟨t673, A110, H⟩ := H
    replace H : (impl_LotTake.j0 k l0 a1 a2 a3 a4 (!t673)) = some (r1, r2, r3) := H
    have A11 := Aside0.mk A110
    clear A110
    have H' := Aside0.mk H
    clear H
    go_wp2_with (first | ((with_reducible refine gate_callee (f := 17) rfl ?_); refine goesL_ (some 19) rfl rfl Try.func17 (by kernel_rfl) rfl #[.slice A0 l0.length c0] rfl (by (try simp only [List.map_toArray, List.map_cons, List.map_nil]); first | done | rfl | (simp only [List.length_drop, List.length_take]; rfl)) ?_; (with_reducible refine (impl_LotsOk.calls _ _ l0 true _ ?side1 ?side2 A7.out).mono ?_); (case side1 => repeat (first | exact (Kd.C_below HR0.out HB.out) | (with_reducible refine Kd.C_alloc ?_ _) | (with_reducible refine Kd.C_drewN ?_ _) | (with_reducible refine Kd.C_drew ?_))); (case side2 => exact HC0.out); rintro e w12 ⟨rfl, hb⟩; refine ⟨_, rfl, ?_⟩; have n0_ := Aside0.mk (below_step (bb_) hb); clear HB; have HB := n0_; clear n0_; (try clear hb); (try clear hb2); (try clear hk); (try clear hi)) | (go_at_call 65; (with_reducible refine (impl_in.calls a3 1 1000000000000000 true _ A9.out).mono ?_); rintro e w' ⟨rfl, ⟨nd, rfl⟩⟩) | (go_at_call 65; (with_reducible refine (impl_in.calls a4 1 3 t673 _ A11.out).mono ?_); rintro e w' ⟨rfl, ⟨nd, rfl⟩⟩))
    go_meet
    case rel => exact ⟨_, (!t673), (by first | rfl | (simp; done) | (simp [*]; done)), H', ⟨by first | omega | exact Nat.le_refl _⟩, ⟨bb_⟩⟩
   ·
    replace c10 := Bool.eq_false_iff.mpr c10
    subst c10
    have H1 : (impl_LotTake.j0 k l0 a1 a2 a3 a4 true) = some (r1, r2, r3) := by rw [if_neg (show ¬ (false = true) by decide)] at H; exact H
    clear H
    have H := H1
    clear H1
    have H' := Aside0.mk H
    clear H
    go_wp2_with (first | ((with_reducible refine gate_callee (f := 17) rfl ?_); refine goesL_ (some 19) rfl rfl Try.func17 (by kernel_rfl) rfl #[.slice A0 l0.length c0] rfl (by (try simp only [List.map_toArray, List.map_cons, List.map_nil]); first | done | rfl | (simp only [List.length_drop, List.length_take]; rfl)) ?_; (with_reducible refine (impl_LotsOk.calls _ _ l0 true _ ?side1 ?side2 A7.out).mono ?_); (case side1 => repeat (first | exact (Kd.C_below HR0.out HB.out) | (with_reducible refine Kd.C_alloc ?_ _) | (with_reducible refine Kd.C_drewN ?_ _) | (with_reducible refine Kd.C_drew ?_))); (case side2 => exact HC0.out); rintro e w13 ⟨rfl, hb⟩; refine ⟨_, rfl, ?_⟩; have n0_ := Aside0.mk (below_step (bb_) hb); clear HB; have HB := n0_; clear n0_; (try clear hb); (try clear hb2); (try clear hk); (try clear hi)) | (go_at_call 65; (with_reducible refine (impl_in.calls a3 1 1000000000000000 false _ A9.out).mono ?_); rintro e w' ⟨rfl, ⟨nd, rfl⟩⟩))
    go_meet
    case rel => exact ⟨_, (true), (by first | rfl | (simp; done) | (simp [*]; done)), H', ⟨by first | omega | exact Nat.le_refl _⟩, ⟨bb_⟩⟩
  ·
   replace c8 := Bool.eq_false_iff.mpr c8
   subst c8
   have H1 : (impl_LotTake.j0 k l0 a1 a2 a3 a4 true) = some (r1, r2, r3) := by rw [if_neg (show ¬ (false = true) by decide)] at H; exact H
   clear H
   have H := H1
   clear H1
   have H' := Aside0.mk H
   clear H
   go_wp2_with (first | ((with_reducible refine gate_callee (f := 17) rfl ?_); refine goesL_ (some 19) rfl rfl Try.func17 (by kernel_rfl) rfl #[.slice A0 l0.length c0] rfl (by (try simp only [List.map_toArray, List.map_cons, List.map_nil]); first | done | rfl | (simp only [List.length_drop, List.length_take]; rfl)) ?_; (with_reducible refine (impl_LotsOk.calls _ _ l0 false _ ?side1 ?side2 A7.out).mono ?_); (case side1 => repeat (first | exact (Kd.C_below HR0.out HB.out) | (with_reducible refine Kd.C_alloc ?_ _) | (with_reducible refine Kd.C_drewN ?_ _) | (with_reducible refine Kd.C_drew ?_))); (case side2 => exact HC0.out); rintro e w14 ⟨rfl, hb⟩; refine ⟨_, rfl, ?_⟩; have n0_ := Aside0.mk (below_step (bb_) hb); clear HB; have HB := n0_; clear n0_; (try clear hb); (try clear hb2); (try clear hk); (try clear hi)))
   go_meet
   case rel => exact ⟨_, (true), (by first | rfl | (simp; done) | (simp [*]; done)), H', ⟨by first | omega | exact Nat.le_refl _⟩, ⟨bb_⟩⟩
 case rest =>
  clear HC6
  try clear c1
  try clear p2
  try clear c3
  try clear c8
  try clear c10
  obtain ⟨kq, x30_5, rfl, HA, HJ5, HB⟩ := hcut
  cases kq with
  | zero => exact absurd HA.out (by simp [impl_LotTake.j0])
  | succ kj5 =>
   have H := HA.out
   clear HA
   simp only [impl_LotTake.j0] at H
   by_cases c15 : x30_5 = true
   ·
    subst c15
    have H1 : (some (([] : List (S37)), 0, 1)) = some (r1, r2, r3) := by rw [if_pos rfl] at H; exact H
    clear H
    have H := H1
    clear H1
    simp only [Option.some.injEq, Prod.mk.injEq] at H
    obtain ⟨rfl, rfl, rfl⟩ := H
    go_wp2
    go_ret3
    exact ⟨_, by first | rfl | (simp [errW_none, errW_some] <;> rfl) | (simp [*, errW_none, errW_some] <;> rfl), by first | exact Kd.R_nil _ _ _ _ _ | exact Kd.N_nil _ _ _ _ _ | exact Kd.V_nil _ _ _ _ _ | exact Kd.Q_nil _ _ _ _ _ | exact Kd.S_nil _ _ _ _ _, bb_⟩
   ·
    replace c15 := Bool.eq_false_iff.mpr c15
    subst c15
    have H1 : ((impl_lotsOf.f l0 a1 a2).bind fun t674 => ((impl_sumLots.f kj5 t674).bind fun bt677 => (if bt677.1 < a3 then ((impl_Lot_55.f l0).bind fun t679 => (some (t679, 0, 2))) else (if a4 = 1 then ((impl_takeLots.f kj5 t674 a3).bind fun bt682 => ((impl_withLots.f l0 a1 a2 bt682.1).bind fun t686 => (some (t686, bt682.2, 0)))) else (if a4 = 2 then ((impl_Lot_67.f t674).bind fun t689 => ((impl_takeLots.f kj5 t689 a3).bind fun bt690 => ((impl_withLots.f l0 a1 a2 bt690.1).bind fun t694 => (some (t694, bt690.2, 0))))) else (if a4 = 3 then ((impl_meanLots.f kj5 t674 a3).bind fun bt697 => ((impl_withLots.f l0 a1 a2 bt697.1).bind fun t701 => (some (t701, bt697.2, 0)))) else ((impl_withLots.f l0 a1 a2 ([] : List (S37))).bind fun t704 => (some (t704, 0, 0))))))))) = some (r1, r2, r3) := by rw [if_neg (show ¬ (false = true) by decide)] at H; exact H
    clear H
    have H := H1
    clear H1
    replace H := Option.bind_eq_some_iff.mp H
    obtain ⟨t674, A160, H⟩ := H
    replace H : ((impl_sumLots.f kj5 t674).bind fun bt677 => (if bt677.1 < a3 then ((impl_Lot_55.f l0).bind fun t679 => (some (t679, 0, 2))) else (if a4 = 1 then ((impl_takeLots.f kj5 t674 a3).bind fun bt682 => ((impl_withLots.f l0 a1 a2 bt682.1).bind fun t686 => (some (t686, bt682.2, 0)))) else (if a4 = 2 then ((impl_Lot_67.f t674).bind fun t689 => ((impl_takeLots.f kj5 t689 a3).bind fun bt690 => ((impl_withLots.f l0 a1 a2 bt690.1).bind fun t694 => (some (t694, bt690.2, 0))))) else (if a4 = 3 then ((impl_meanLots.f kj5 t674 a3).bind fun bt697 => ((impl_withLots.f l0 a1 a2 bt697.1).bind fun t701 => (some (t701, bt697.2, 0)))) else ((impl_withLots.f l0 a1 a2 ([] : List (S37))).bind fun t704 => (some (t704, 0, 0)))))))) = some (r1, r2, r3) := H
    have A16 := Aside0.mk A160
    clear A160
    replace H := Option.bind_eq_some_iff.mp H
    obtain ⟨⟨t677, t678⟩, A170, H⟩ := H
    replace H : (if t677 < a3 then ((impl_Lot_55.f l0).bind fun t679 => (some (t679, 0, 2))) else (if a4 = 1 then ((impl_takeLots.f kj5 t674 a3).bind fun bt682 => ((impl_withLots.f l0 a1 a2 bt682.1).bind fun t686 => (some (t686, bt682.2, 0)))) else (if a4 = 2 then ((impl_Lot_67.f t674).bind fun t689 => ((impl_takeLots.f kj5 t689 a3).bind fun bt690 => ((impl_withLots.f l0 a1 a2 bt690.1).bind fun t694 => (some (t694, bt690.2, 0))))) else (if a4 = 3 then ((impl_meanLots.f kj5 t674 a3).bind fun bt697 => ((impl_withLots.f l0 a1 a2 bt697.1).bind fun t701 => (some (t701, bt697.2, 0)))) else ((impl_withLots.f l0 a1 a2 ([] : List (S37))).bind fun t704 => (some (t704, 0, 0))))))) = some (r1, r2, r3) := H
    have A17 := Aside0.mk A170
    clear A170
    by_cases c18 : t677 < a3
    ·
     rw [if_pos c18] at H
     have c18b0 : decide (t677 < a3) = true := decide_eq_true c18
     clear c18
     replace H := Option.bind_eq_some_iff.mp H
     obtain ⟨t679, A190, H⟩ := H
     replace H : (some (t679, 0, 2)) = some (r1, r2, r3) := H
     have A19 := Aside0.mk A190
     clear A190
     simp only [Option.some.injEq, Prod.mk.injEq] at H
     obtain ⟨rfl, rfl, rfl⟩ := H
     go_wp2_with (first | ((with_reducible refine gate_callee (f := 47) rfl ?_); refine goesL_ (some 34) rfl rfl Try.func47 (by kernel_rfl) rfl #[.slice A0 l0.length c0, .int .i64 a1, .int .i64 a2] rfl (by (try simp only [List.map_toArray, List.map_cons, List.map_nil]); first | done | rfl | (simp only [List.length_drop, List.length_take]; rfl)) ?_; (with_reducible refine (impl_lotsOf.calls _ _ l0 a1 a2 t674 _ ?side1 ?side2 A16.out).mono ?_); (case side1 => repeat (first | exact (Kd.C_below HR0.out HB.out) | (with_reducible refine Kd.C_alloc ?_ _) | (with_reducible refine Kd.C_drewN ?_ _) | (with_reducible refine Kd.C_drew ?_))); (case side2 => exact HC0.out); rintro e w20 ⟨v675, rfl, ho0, hb⟩; refine ⟨_, rfl, ?_⟩; have n0_ := Aside0.mk (Kd.R_lower ho0 (below_size (bb_))); have n1_ := Aside0.mk (below_step (bb_) hb); clear HB; have HO676 := n0_; have HB := n1_; clear n0_ n1_; (try clear hb); (try clear hb2); (try clear hk); (try clear hi); (try clear ho0); obtain ⟨Ao21, co21, eo21⟩ := Kd.R_slice HO676.out; subst eo21) | ((with_reducible refine gate_callee (f := 46) rfl ?_); refine goesL_ (some 37) rfl rfl Try.func46 (by kernel_rfl) rfl #[.slice Ao21 t674.length co21] rfl (by (try simp only [List.map_toArray, List.map_cons, List.map_nil]); first | done | rfl | (simp only [List.length_drop, List.length_take]; rfl)) ?_; (with_reducible refine (impl_sumLots.calls kj5 _ _ t674 t677 t678 _ ?side1 ?side2 A17.out).mono ?_); (case side1 => repeat (first | exact (Kd.R_reads' HO676.out).2.2 | (with_reducible refine Kd.C_alloc ?_ _) | (with_reducible refine Kd.C_drewN ?_ _) | (with_reducible refine Kd.C_drew ?_))); (case side2 => exact (Kd.R_reads' HO676.out).2.1); rintro e w22 ⟨rfl, hb⟩; refine ⟨_, rfl, ?_⟩; have n0_ := Aside0.mk (Kd.R_below (by (with_reducible repeat (first | apply Kd.R_alloc | apply Kd.R_drewN | apply Kd.R_drew)); exact HO676.out) hb); have n1_ := Aside0.mk (below_step (bb_) hb); clear HO676; clear HB; have HO676 := n0_; have HB := n1_; clear n0_ n1_; (try clear hb); (try clear hb2); (try clear hk); (try clear hi)) | ((with_reducible refine gate_callee (f := 55) rfl ?_); refine goesL_ (some 44) rfl rfl Try.func55 (by kernel_rfl) rfl #[.slice A0 l0.length c0] rfl (by (try simp only [List.map_toArray, List.map_cons, List.map_nil]); first | done | rfl | (simp only [List.length_drop, List.length_take]; rfl)) ?_; (with_reducible refine (impl_Lot_55.calls _ _ l0 t679 _ ?side1 ?side2 A19.out).mono ?_); (case side1 => repeat (first | exact (Kd.C_below HR0.out HB.out) | (with_reducible refine Kd.C_alloc ?_ _) | (with_reducible refine Kd.C_drewN ?_ _) | (with_reducible refine Kd.C_drew ?_))); (case side2 => exact HC0.out); rintro e w23 ⟨v680, rfl, ho0, hb⟩; refine ⟨_, rfl, ?_⟩; have n0_ := Aside0.mk (Kd.R_elder' (by (with_reducible repeat (first | apply Kd.R_alloc | apply Kd.R_drewN | apply Kd.R_drew)); exact HO676.out) (Kd.R_base ho0) hb); have n1_ := Aside0.mk (Kd.R_lower (Kd.R_new' ho0 (Kd.R_lt (by (with_reducible repeat (first | apply Kd.R_alloc | apply Kd.R_drewN | apply Kd.R_drew)); exact HO676.out))) (below_size (bb_))); have n2_ := Aside0.mk (below_step (bb_) hb); clear HO676; clear HB; have HO676 := n0_; have HO681 := n1_; have HB := n2_; clear n0_ n1_ n2_; (try clear hb); (try clear hb2); (try clear hk); (try clear hi); (try clear ho0)))
     go_ret3
     exact ⟨_, by first | rfl | (simp [errW_none, errW_some] <;> rfl) | (simp [*, errW_none, errW_some] <;> rfl), by (with_reducible repeat (first | apply Kd.R_alloc | apply Kd.R_drewN | apply Kd.R_drew)); exact Kd.R_mono HO681.out (fun _ hk => trivial), bb_⟩
    ·
     rw [if_neg c18] at H
     have c18b0 : decide (t677 < a3) = false := decide_eq_false c18
     clear c18
     by_cases c24 : a4 = 1
     ·
      rw [if_pos c24] at H
      have c24b0 : (a4 == 1) = true := beq_iff_eq.mpr c24
      have c24b1 : (a4 != 1) = false := bne_eq_false_iff_eq.mpr c24
      clear c24
      replace H := Option.bind_eq_some_iff.mp H
      obtain ⟨⟨t682, t683⟩, A250, H⟩ := H
      replace H : ((impl_withLots.f l0 a1 a2 t682).bind fun t686 => (some (t686, t683, 0))) = some (r1, r2, r3) := H
      have A25 := Aside0.mk A250
      clear A250
      replace H := Option.bind_eq_some_iff.mp H
      obtain ⟨t686, A260, H⟩ := H
      replace H : (some (t686, t683, 0)) = some (r1, r2, r3) := H
      have A26 := Aside0.mk A260
      clear A260
      simp only [Option.some.injEq, Prod.mk.injEq] at H
      obtain ⟨rfl, rfl, rfl⟩ := H
      go_wp2_with (first | ((with_reducible refine gate_callee (f := 47) rfl ?_); refine goesL_ (some 34) rfl rfl Try.func47 (by kernel_rfl) rfl #[.slice A0 l0.length c0, .int .i64 a1, .int .i64 a2] rfl (by (try simp only [List.map_toArray, List.map_cons, List.map_nil]); first | done | rfl | (simp only [List.length_drop, List.length_take]; rfl)) ?_; (with_reducible refine (impl_lotsOf.calls _ _ l0 a1 a2 t674 _ ?side1 ?side2 A16.out).mono ?_); (case side1 => repeat (first | exact (Kd.C_below HR0.out HB.out) | (with_reducible refine Kd.C_alloc ?_ _) | (with_reducible refine Kd.C_drewN ?_ _) | (with_reducible refine Kd.C_drew ?_))); (case side2 => exact HC0.out); rintro e w27 ⟨v675, rfl, ho0, hb⟩; refine ⟨_, rfl, ?_⟩; have n0_ := Aside0.mk (Kd.R_lower ho0 (below_size (bb_))); have n1_ := Aside0.mk (below_step (bb_) hb); clear HB; have HO676 := n0_; have HB := n1_; clear n0_ n1_; (try clear hb); (try clear hb2); (try clear hk); (try clear hi); (try clear ho0); obtain ⟨Ao28, co28, eo28⟩ := Kd.R_slice HO676.out; subst eo28) | ((with_reducible refine gate_callee (f := 46) rfl ?_); refine goesL_ (some 37) rfl rfl Try.func46 (by kernel_rfl) rfl #[.slice Ao28 t674.length co28] rfl (by (try simp only [List.map_toArray, List.map_cons, List.map_nil]); first | done | rfl | (simp only [List.length_drop, List.length_take]; rfl)) ?_; (with_reducible refine (impl_sumLots.calls kj5 _ _ t674 t677 t678 _ ?side1 ?side2 A17.out).mono ?_); (case side1 => repeat (first | exact (Kd.R_reads' HO676.out).2.2 | (with_reducible refine Kd.C_alloc ?_ _) | (with_reducible refine Kd.C_drewN ?_ _) | (with_reducible refine Kd.C_drew ?_))); (case side2 => exact (Kd.R_reads' HO676.out).2.1); rintro e w29 ⟨rfl, hb⟩; refine ⟨_, rfl, ?_⟩; have n0_ := Aside0.mk (Kd.R_below (by (with_reducible repeat (first | apply Kd.R_alloc | apply Kd.R_drewN | apply Kd.R_drew)); exact HO676.out) hb); have n1_ := Aside0.mk (below_step (bb_) hb); clear HO676; clear HB; have HO676 := n0_; have HB := n1_; clear n0_ n1_; (try clear hb); (try clear hb2); (try clear hk); (try clear hi)) | ((with_reducible refine gate_callee (f := 66) rfl ?_); refine goesL_ (some 51) rfl rfl Try.func66 (by kernel_rfl) rfl #[.slice Ao28 t674.length co28, .int .i64 a3] rfl (by (try simp only [List.map_toArray, List.map_cons, List.map_nil]); first | done | rfl | (simp only [List.length_drop, List.length_take]; rfl)) ?_; (with_reducible refine (impl_takeLots.calls kj5 _ _ t674 a3 t682 t683 _ ?side1 ?side2 A25.out).mono ?_); (case side1 => repeat (first | exact (Kd.R_reads' HO676.out).2.2 | (with_reducible refine Kd.C_alloc ?_ _) | (with_reducible refine Kd.C_drewN ?_ _) | (with_reducible refine Kd.C_drew ?_))); (case side2 => exact (Kd.R_reads' HO676.out).2.1); rintro e w30 ⟨v684, rfl, ho0, hb⟩; refine ⟨_, rfl, ?_⟩; have n0_ := Aside0.mk (Kd.R_elder' (by (with_reducible repeat (first | apply Kd.R_alloc | apply Kd.R_drewN | apply Kd.R_drew)); exact HO676.out) (Kd.R_base ho0) hb); have n1_ := Aside0.mk (Kd.R_lower (Kd.R_new' ho0 (Kd.R_lt (by (with_reducible repeat (first | apply Kd.R_alloc | apply Kd.R_drewN | apply Kd.R_drew)); exact HO676.out))) (below_size (bb_))); have n2_ := Aside0.mk (below_step (bb_) hb); clear HO676; clear HB; have HO676 := n0_; have HO685 := n1_; have HB := n2_; clear n0_ n1_ n2_; (try clear hb); (try clear hb2); (try clear hk); (try clear hi); (try clear ho0); obtain ⟨Ao31, co31, eo31⟩ := Kd.R_slice HO685.out; subst eo31) | ((with_reducible refine gate_callee (f := 69) rfl ?_); refine goesL_ (some 76) rfl rfl Try.func69 (by kernel_rfl) rfl #[.slice A0 l0.length c0, .int .i64 a1, .int .i64 a2, .slice Ao31 t682.length co31] rfl (by (try simp only [List.map_toArray, List.map_cons, List.map_nil]); first | done | rfl | (simp only [List.length_drop, List.length_take]; rfl)) ?_; (with_reducible refine (impl_withLots.calls _ _ l0 a1 a2 _ _ t682 t686 _ ?side1 ?side2 ?side3 ?side4 A26.out).mono ?_); (case side1 => repeat (first | exact (Kd.C_below HR0.out HB.out) | (with_reducible refine Kd.C_alloc ?_ _) | (with_reducible refine Kd.C_drewN ?_ _) | (with_reducible refine Kd.C_drew ?_))); (case side2 => exact HC0.out); (case side3 => repeat (first | exact (Kd.R_reads' HO685.out).2.2 | (with_reducible refine Kd.C_alloc ?_ _) | (with_reducible refine Kd.C_drewN ?_ _) | (with_reducible refine Kd.C_drew ?_))); (case side4 => exact (Kd.R_reads' HO685.out).2.1); rintro e w32 ⟨v687, rfl, ho0, hb⟩; refine ⟨_, rfl, ?_⟩; have n0_ := Aside0.mk (Kd.R_elder' (by (with_reducible repeat (first | apply Kd.R_alloc | apply Kd.R_drewN | apply Kd.R_drew)); exact HO676.out) (Kd.R_base ho0) hb); have n1_ := Aside0.mk (Kd.R_elder' (by (with_reducible repeat (first | apply Kd.R_alloc | apply Kd.R_drewN | apply Kd.R_drew)); exact HO685.out) (Kd.R_base ho0) hb); have n2_ := Aside0.mk (Kd.R_lower (Kd.R_new' (Kd.R_new' ho0 (Kd.R_lt (by (with_reducible repeat (first | apply Kd.R_alloc | apply Kd.R_drewN | apply Kd.R_drew)); exact HO676.out))) (Kd.R_lt (by (with_reducible repeat (first | apply Kd.R_alloc | apply Kd.R_drewN | apply Kd.R_drew)); exact HO685.out))) (below_size (bb_))); have n3_ := Aside0.mk (below_step (bb_) hb); clear HO676; clear HO685; clear HB; have HO676 := n0_; have HO685 := n1_; have HO688 := n2_; have HB := n3_; clear n0_ n1_ n2_ n3_; (try clear hb); (try clear hb2); (try clear hk); (try clear hi); (try clear ho0)))
      go_ret3
      exact ⟨_, by first | rfl | (simp [errW_none, errW_some] <;> rfl) | (simp [*, errW_none, errW_some] <;> rfl), by (with_reducible repeat (first | apply Kd.R_alloc | apply Kd.R_drewN | apply Kd.R_drew)); exact Kd.R_mono HO688.out (fun _ hk => trivial), bb_⟩
     ·
      rw [if_neg c24] at H
      have c24b0 : (a4 == 1) = false := beq_eq_false_iff_ne.mpr c24
      have c24b1 : (a4 != 1) = true := bne_iff_ne.mpr c24
      by_cases c33 : a4 = 2
      ·
       rw [if_pos c33] at H
       have c33b0 : (a4 == 2) = true := beq_iff_eq.mpr c33
       have c33b1 : (a4 != 2) = false := bne_eq_false_iff_eq.mpr c33
       clear c33
       replace H := Option.bind_eq_some_iff.mp H
       obtain ⟨t689, A340, H⟩ := H
       replace H : ((impl_takeLots.f kj5 t689 a3).bind fun bt690 => ((impl_withLots.f l0 a1 a2 bt690.1).bind fun t694 => (some (t694, bt690.2, 0)))) = some (r1, r2, r3) := H
       have A34 := Aside0.mk A340
       clear A340
       replace H := Option.bind_eq_some_iff.mp H
       obtain ⟨⟨t690, t691⟩, A350, H⟩ := H
       replace H : ((impl_withLots.f l0 a1 a2 t690).bind fun t694 => (some (t694, t691, 0))) = some (r1, r2, r3) := H
       have A35 := Aside0.mk A350
       clear A350
       replace H := Option.bind_eq_some_iff.mp H
       obtain ⟨t694, A360, H⟩ := H
       replace H : (some (t694, t691, 0)) = some (r1, r2, r3) := H
       have A36 := Aside0.mk A360
       clear A360
       simp only [Option.some.injEq, Prod.mk.injEq] at H
       obtain ⟨rfl, rfl, rfl⟩ := H
       go_wp2_with (first | ((with_reducible refine gate_callee (f := 47) rfl ?_); refine goesL_ (some 34) rfl rfl Try.func47 (by kernel_rfl) rfl #[.slice A0 l0.length c0, .int .i64 a1, .int .i64 a2] rfl (by (try simp only [List.map_toArray, List.map_cons, List.map_nil]); first | done | rfl | (simp only [List.length_drop, List.length_take]; rfl)) ?_; (with_reducible refine (impl_lotsOf.calls _ _ l0 a1 a2 t674 _ ?side1 ?side2 A16.out).mono ?_); (case side1 => repeat (first | exact (Kd.C_below HR0.out HB.out) | (with_reducible refine Kd.C_alloc ?_ _) | (with_reducible refine Kd.C_drewN ?_ _) | (with_reducible refine Kd.C_drew ?_))); (case side2 => exact HC0.out); rintro e w37 ⟨v675, rfl, ho0, hb⟩; refine ⟨_, rfl, ?_⟩; have n0_ := Aside0.mk (Kd.R_lower ho0 (below_size (bb_))); have n1_ := Aside0.mk (below_step (bb_) hb); clear HB; have HO676 := n0_; have HB := n1_; clear n0_ n1_; (try clear hb); (try clear hb2); (try clear hk); (try clear hi); (try clear ho0); obtain ⟨Ao38, co38, eo38⟩ := Kd.R_slice HO676.out; subst eo38) | ((with_reducible refine gate_callee (f := 46) rfl ?_); refine goesL_ (some 37) rfl rfl Try.func46 (by kernel_rfl) rfl #[.slice Ao38 t674.length co38] rfl (by (try simp only [List.map_toArray, List.map_cons, List.map_nil]); first | done | rfl | (simp only [List.length_drop, List.length_take]; rfl)) ?_; (with_reducible refine (impl_sumLots.calls kj5 _ _ t674 t677 t678 _ ?side1 ?side2 A17.out).mono ?_); (case side1 => repeat (first | exact (Kd.R_reads' HO676.out).2.2 | (with_reducible refine Kd.C_alloc ?_ _) | (with_reducible refine Kd.C_drewN ?_ _) | (with_reducible refine Kd.C_drew ?_))); (case side2 => exact (Kd.R_reads' HO676.out).2.1); rintro e w39 ⟨rfl, hb⟩; refine ⟨_, rfl, ?_⟩; have n0_ := Aside0.mk (Kd.R_below (by (with_reducible repeat (first | apply Kd.R_alloc | apply Kd.R_drewN | apply Kd.R_drew)); exact HO676.out) hb); have n1_ := Aside0.mk (below_step (bb_) hb); clear HO676; clear HB; have HO676 := n0_; have HB := n1_; clear n0_ n1_; (try clear hb); (try clear hb2); (try clear hk); (try clear hi)) | ((with_reducible refine gate_callee (f := 67) rfl ?_); refine goesL_ (some 57) rfl rfl Try.func67 (by kernel_rfl) rfl #[.slice Ao38 t674.length co38] rfl (by (try simp only [List.map_toArray, List.map_cons, List.map_nil]); first | done | rfl | (simp only [List.length_drop, List.length_take]; rfl)) ?_; (with_reducible refine (impl_Lot_67.calls (fun k_ => some k_ = (.slice Ao38 t674.length co38 : Value).ownBlock) (.slice Ao38 t674.length co38) t674 t689 w _ ?side1 ?side2 A34.out).mono ?_); (case side1 => repeat (first | (with_reducible first | exact HB.out | apply below_alloc | apply pw_below_drewN | apply below_drew1) | exact HB.out)); (case side2 => exact Kd.R_tight rfl HO676.out); rintro e w40 ⟨rfl, hy0, hb, hkp⟩; refine ⟨_, rfl, ?_⟩; have n0_ := Aside0.mk (Kd.R_reok rfl hy0 (fun k_ e_ => HO676.out.1 k_ e_)); have n1_ := Aside0.mk (hb); clear HO676; clear HB; have HO676 := n0_; have HB := n1_; clear n0_ n1_; (try clear hb); (try clear hkp); (try clear hy0)) | ((with_reducible refine gate_callee (f := 66) rfl ?_); refine goesL_ (some 61) rfl rfl Try.func66 (by kernel_rfl) rfl #[.slice Ao38 t689.length co38, .int .i64 a3] rfl (by (try simp only [List.map_toArray, List.map_cons, List.map_nil]); first | done | (rw [show t689.length = t674.length from (Kd.R_reads' HO676.out).1.symm] <;> rfl) | rfl | (simp only [List.length_drop, List.length_take]; rfl)) ?_; (with_reducible refine (impl_takeLots.calls kj5 _ _ t689 a3 t690 t691 _ ?side1 ?side2 A35.out).mono ?_); (case side1 => repeat (first | exact (Kd.R_reads' HO676.out).2.2 | (with_reducible refine Kd.C_alloc ?_ _) | (with_reducible refine Kd.C_drewN ?_ _) | (with_reducible refine Kd.C_drew ?_))); (case side2 => rw [show t689.length = t674.length from (Kd.R_reads' HO676.out).1.symm]; exact (Kd.R_reads' HO676.out).2.1); rintro e w41 ⟨v692, rfl, ho0, hb⟩; refine ⟨_, rfl, ?_⟩; have n0_ := Aside0.mk (Kd.R_elder' (by (with_reducible repeat (first | apply Kd.R_alloc | apply Kd.R_drewN | apply Kd.R_drew)); exact HO676.out) (Kd.R_base ho0) hb); have n1_ := Aside0.mk (Kd.R_lower (Kd.R_new' ho0 (Kd.R_lt (by (with_reducible repeat (first | apply Kd.R_alloc | apply Kd.R_drewN | apply Kd.R_drew)); exact HO676.out))) (below_size (bb_))); have n2_ := Aside0.mk (below_step (bb_) hb); clear HO676; clear HB; have HO676 := n0_; have HO693 := n1_; have HB := n2_; clear n0_ n1_ n2_; (try clear hb); (try clear hb2); (try clear hk); (try clear hi); (try clear ho0); obtain ⟨Ao42, co42, eo42⟩ := Kd.R_slice HO693.out; subst eo42) | ((with_reducible refine gate_callee (f := 69) rfl ?_); refine goesL_ (some 76) rfl rfl Try.func69 (by kernel_rfl) rfl #[.slice A0 l0.length c0, .int .i64 a1, .int .i64 a2, .slice Ao42 t690.length co42] rfl (by (try simp only [List.map_toArray, List.map_cons, List.map_nil]); first | done | rfl | (simp only [List.length_drop, List.length_take]; rfl)) ?_; (with_reducible refine (impl_withLots.calls _ _ l0 a1 a2 _ _ t690 t694 _ ?side1 ?side2 ?side3 ?side4 A36.out).mono ?_); (case side1 => repeat (first | exact (Kd.C_below HR0.out HB.out) | (with_reducible refine Kd.C_alloc ?_ _) | (with_reducible refine Kd.C_drewN ?_ _) | (with_reducible refine Kd.C_drew ?_))); (case side2 => exact HC0.out); (case side3 => repeat (first | exact (Kd.R_reads' HO693.out).2.2 | (with_reducible refine Kd.C_alloc ?_ _) | (with_reducible refine Kd.C_drewN ?_ _) | (with_reducible refine Kd.C_drew ?_))); (case side4 => exact (Kd.R_reads' HO693.out).2.1); rintro e w43 ⟨v695, rfl, ho0, hb⟩; refine ⟨_, rfl, ?_⟩; have n0_ := Aside0.mk (Kd.R_elder' (by (with_reducible repeat (first | apply Kd.R_alloc | apply Kd.R_drewN | apply Kd.R_drew)); exact HO676.out) (Kd.R_base ho0) hb); have n1_ := Aside0.mk (Kd.R_elder' (by (with_reducible repeat (first | apply Kd.R_alloc | apply Kd.R_drewN | apply Kd.R_drew)); exact HO693.out) (Kd.R_base ho0) hb); have n2_ := Aside0.mk (Kd.R_lower (Kd.R_new' (Kd.R_new' ho0 (Kd.R_lt (by (with_reducible repeat (first | apply Kd.R_alloc | apply Kd.R_drewN | apply Kd.R_drew)); exact HO676.out))) (Kd.R_lt (by (with_reducible repeat (first | apply Kd.R_alloc | apply Kd.R_drewN | apply Kd.R_drew)); exact HO693.out))) (below_size (bb_))); have n3_ := Aside0.mk (below_step (bb_) hb); clear HO676; clear HO693; clear HB; have HO676 := n0_; have HO693 := n1_; have HO696 := n2_; have HB := n3_; clear n0_ n1_ n2_ n3_; (try clear hb); (try clear hb2); (try clear hk); (try clear hi); (try clear ho0)))
       go_ret3
       exact ⟨_, by first | rfl | (simp [errW_none, errW_some] <;> rfl) | (simp [*, errW_none, errW_some] <;> rfl), by (with_reducible repeat (first | apply Kd.R_alloc | apply Kd.R_drewN | apply Kd.R_drew)); exact Kd.R_mono HO696.out (fun _ hk => trivial), bb_⟩
      ·
       rw [if_neg c33] at H
       have c33b0 : (a4 == 2) = false := beq_eq_false_iff_ne.mpr c33
       have c33b1 : (a4 != 2) = true := bne_iff_ne.mpr c33
       by_cases c44 : a4 = 3
       ·
        rw [if_pos c44] at H
        have c44b0 : (a4 == 3) = true := beq_iff_eq.mpr c44
        have c44b1 : (a4 != 3) = false := bne_eq_false_iff_eq.mpr c44
        clear c44
        replace H := Option.bind_eq_some_iff.mp H
        obtain ⟨⟨t697, t698⟩, A450, H⟩ := H
        replace H : ((impl_withLots.f l0 a1 a2 t697).bind fun t701 => (some (t701, t698, 0))) = some (r1, r2, r3) := H
        have A45 := Aside0.mk A450
        clear A450
        replace H := Option.bind_eq_some_iff.mp H
        obtain ⟨t701, A460, H⟩ := H
        replace H : (some (t701, t698, 0)) = some (r1, r2, r3) := H
        have A46 := Aside0.mk A460
        clear A460
        simp only [Option.some.injEq, Prod.mk.injEq] at H
        obtain ⟨rfl, rfl, rfl⟩ := H
        go_wp2_with (first | ((with_reducible refine gate_callee (f := 47) rfl ?_); refine goesL_ (some 34) rfl rfl Try.func47 (by kernel_rfl) rfl #[.slice A0 l0.length c0, .int .i64 a1, .int .i64 a2] rfl (by (try simp only [List.map_toArray, List.map_cons, List.map_nil]); first | done | rfl | (simp only [List.length_drop, List.length_take]; rfl)) ?_; (with_reducible refine (impl_lotsOf.calls _ _ l0 a1 a2 t674 _ ?side1 ?side2 A16.out).mono ?_); (case side1 => repeat (first | exact (Kd.C_below HR0.out HB.out) | (with_reducible refine Kd.C_alloc ?_ _) | (with_reducible refine Kd.C_drewN ?_ _) | (with_reducible refine Kd.C_drew ?_))); (case side2 => exact HC0.out); rintro e w47 ⟨v675, rfl, ho0, hb⟩; refine ⟨_, rfl, ?_⟩; have n0_ := Aside0.mk (Kd.R_lower ho0 (below_size (bb_))); have n1_ := Aside0.mk (below_step (bb_) hb); clear HB; have HO676 := n0_; have HB := n1_; clear n0_ n1_; (try clear hb); (try clear hb2); (try clear hk); (try clear hi); (try clear ho0); obtain ⟨Ao48, co48, eo48⟩ := Kd.R_slice HO676.out; subst eo48) | ((with_reducible refine gate_callee (f := 46) rfl ?_); refine goesL_ (some 37) rfl rfl Try.func46 (by kernel_rfl) rfl #[.slice Ao48 t674.length co48] rfl (by (try simp only [List.map_toArray, List.map_cons, List.map_nil]); first | done | rfl | (simp only [List.length_drop, List.length_take]; rfl)) ?_; (with_reducible refine (impl_sumLots.calls kj5 _ _ t674 t677 t678 _ ?side1 ?side2 A17.out).mono ?_); (case side1 => repeat (first | exact (Kd.R_reads' HO676.out).2.2 | (with_reducible refine Kd.C_alloc ?_ _) | (with_reducible refine Kd.C_drewN ?_ _) | (with_reducible refine Kd.C_drew ?_))); (case side2 => exact (Kd.R_reads' HO676.out).2.1); rintro e w49 ⟨rfl, hb⟩; refine ⟨_, rfl, ?_⟩; have n0_ := Aside0.mk (Kd.R_below (by (with_reducible repeat (first | apply Kd.R_alloc | apply Kd.R_drewN | apply Kd.R_drew)); exact HO676.out) hb); have n1_ := Aside0.mk (below_step (bb_) hb); clear HO676; clear HB; have HO676 := n0_; have HB := n1_; clear n0_ n1_; (try clear hb); (try clear hb2); (try clear hk); (try clear hi)) | ((with_reducible refine gate_callee (f := 68) rfl ?_); refine goesL_ (some 69) rfl rfl Try.func68 (by kernel_rfl) rfl #[.slice Ao48 t674.length co48, .int .i64 a3] rfl (by (try simp only [List.map_toArray, List.map_cons, List.map_nil]); first | done | rfl | (simp only [List.length_drop, List.length_take]; rfl)) ?_; (with_reducible refine (impl_meanLots.calls kj5 _ _ t674 a3 t697 t698 _ ?side1 ?side2 A45.out).mono ?_); (case side1 => repeat (first | exact (Kd.R_reads' HO676.out).2.2 | (with_reducible refine Kd.C_alloc ?_ _) | (with_reducible refine Kd.C_drewN ?_ _) | (with_reducible refine Kd.C_drew ?_))); (case side2 => exact (Kd.R_reads' HO676.out).2.1); rintro e w50 ⟨v699, rfl, ho0, hb⟩; refine ⟨_, rfl, ?_⟩; have n0_ := Aside0.mk (Kd.R_elder' (by (with_reducible repeat (first | apply Kd.R_alloc | apply Kd.R_drewN | apply Kd.R_drew)); exact HO676.out) (Kd.R_base ho0) hb); have n1_ := Aside0.mk (Kd.R_lower (Kd.R_new' ho0 (Kd.R_lt (by (with_reducible repeat (first | apply Kd.R_alloc | apply Kd.R_drewN | apply Kd.R_drew)); exact HO676.out))) (below_size (bb_))); have n2_ := Aside0.mk (below_step (bb_) hb); clear HO676; clear HB; have HO676 := n0_; have HO700 := n1_; have HB := n2_; clear n0_ n1_ n2_; (try clear hb); (try clear hb2); (try clear hk); (try clear hi); (try clear ho0); obtain ⟨Ao51, co51, eo51⟩ := Kd.R_slice HO700.out; subst eo51) | ((with_reducible refine gate_callee (f := 69) rfl ?_); refine goesL_ (some 76) rfl rfl Try.func69 (by kernel_rfl) rfl #[.slice A0 l0.length c0, .int .i64 a1, .int .i64 a2, .slice Ao51 t697.length co51] rfl (by (try simp only [List.map_toArray, List.map_cons, List.map_nil]); first | done | rfl | (simp only [List.length_drop, List.length_take]; rfl)) ?_; (with_reducible refine (impl_withLots.calls _ _ l0 a1 a2 _ _ t697 t701 _ ?side1 ?side2 ?side3 ?side4 A46.out).mono ?_); (case side1 => repeat (first | exact (Kd.C_below HR0.out HB.out) | (with_reducible refine Kd.C_alloc ?_ _) | (with_reducible refine Kd.C_drewN ?_ _) | (with_reducible refine Kd.C_drew ?_))); (case side2 => exact HC0.out); (case side3 => repeat (first | exact (Kd.R_reads' HO700.out).2.2 | (with_reducible refine Kd.C_alloc ?_ _) | (with_reducible refine Kd.C_drewN ?_ _) | (with_reducible refine Kd.C_drew ?_))); (case side4 => exact (Kd.R_reads' HO700.out).2.1); rintro e w52 ⟨v702, rfl, ho0, hb⟩; refine ⟨_, rfl, ?_⟩; have n0_ := Aside0.mk (Kd.R_elder' (by (with_reducible repeat (first | apply Kd.R_alloc | apply Kd.R_drewN | apply Kd.R_drew)); exact HO676.out) (Kd.R_base ho0) hb); have n1_ := Aside0.mk (Kd.R_elder' (by (with_reducible repeat (first | apply Kd.R_alloc | apply Kd.R_drewN | apply Kd.R_drew)); exact HO700.out) (Kd.R_base ho0) hb); have n2_ := Aside0.mk (Kd.R_lower (Kd.R_new' (Kd.R_new' ho0 (Kd.R_lt (by (with_reducible repeat (first | apply Kd.R_alloc | apply Kd.R_drewN | apply Kd.R_drew)); exact HO676.out))) (Kd.R_lt (by (with_reducible repeat (first | apply Kd.R_alloc | apply Kd.R_drewN | apply Kd.R_drew)); exact HO700.out))) (below_size (bb_))); have n3_ := Aside0.mk (below_step (bb_) hb); clear HO676; clear HO700; clear HB; have HO676 := n0_; have HO700 := n1_; have HO703 := n2_; have HB := n3_; clear n0_ n1_ n2_ n3_; (try clear hb); (try clear hb2); (try clear hk); (try clear hi); (try clear ho0)))
        go_ret3
        exact ⟨_, by first | rfl | (simp [errW_none, errW_some] <;> rfl) | (simp [*, errW_none, errW_some] <;> rfl), by (with_reducible repeat (first | apply Kd.R_alloc | apply Kd.R_drewN | apply Kd.R_drew)); exact Kd.R_mono HO703.out (fun _ hk => trivial), bb_⟩
       ·
        rw [if_neg c44] at H
        have c44b0 : (a4 == 3) = false := beq_eq_false_iff_ne.mpr c44
        have c44b1 : (a4 != 3) = true := bne_iff_ne.mpr c44
        replace H := Option.bind_eq_some_iff.mp H
        obtain ⟨t704, A530, H⟩ := H
        replace H : (some (t704, 0, 0)) = some (r1, r2, r3) := H
        have A53 := Aside0.mk A530
        clear A530
        simp only [Option.some.injEq, Prod.mk.injEq] at H
        obtain ⟨rfl, rfl, rfl⟩ := H
        go_wp2_with (first | ((with_reducible refine gate_callee (f := 47) rfl ?_); refine goesL_ (some 34) rfl rfl Try.func47 (by kernel_rfl) rfl #[.slice A0 l0.length c0, .int .i64 a1, .int .i64 a2] rfl (by (try simp only [List.map_toArray, List.map_cons, List.map_nil]); first | done | rfl | (simp only [List.length_drop, List.length_take]; rfl)) ?_; (with_reducible refine (impl_lotsOf.calls _ _ l0 a1 a2 t674 _ ?side1 ?side2 A16.out).mono ?_); (case side1 => repeat (first | exact (Kd.C_below HR0.out HB.out) | (with_reducible refine Kd.C_alloc ?_ _) | (with_reducible refine Kd.C_drewN ?_ _) | (with_reducible refine Kd.C_drew ?_))); (case side2 => exact HC0.out); rintro e w54 ⟨v675, rfl, ho0, hb⟩; refine ⟨_, rfl, ?_⟩; have n0_ := Aside0.mk (Kd.R_lower ho0 (below_size (bb_))); have n1_ := Aside0.mk (below_step (bb_) hb); clear HB; have HO676 := n0_; have HB := n1_; clear n0_ n1_; (try clear hb); (try clear hb2); (try clear hk); (try clear hi); (try clear ho0); obtain ⟨Ao55, co55, eo55⟩ := Kd.R_slice HO676.out; subst eo55) | ((with_reducible refine gate_callee (f := 46) rfl ?_); refine goesL_ (some 37) rfl rfl Try.func46 (by kernel_rfl) rfl #[.slice Ao55 t674.length co55] rfl (by (try simp only [List.map_toArray, List.map_cons, List.map_nil]); first | done | rfl | (simp only [List.length_drop, List.length_take]; rfl)) ?_; (with_reducible refine (impl_sumLots.calls kj5 _ _ t674 t677 t678 _ ?side1 ?side2 A17.out).mono ?_); (case side1 => repeat (first | exact (Kd.R_reads' HO676.out).2.2 | (with_reducible refine Kd.C_alloc ?_ _) | (with_reducible refine Kd.C_drewN ?_ _) | (with_reducible refine Kd.C_drew ?_))); (case side2 => exact (Kd.R_reads' HO676.out).2.1); rintro e w56 ⟨rfl, hb⟩; refine ⟨_, rfl, ?_⟩; have n0_ := Aside0.mk (Kd.R_below (by (with_reducible repeat (first | apply Kd.R_alloc | apply Kd.R_drewN | apply Kd.R_drew)); exact HO676.out) hb); have n1_ := Aside0.mk (below_step (bb_) hb); clear HO676; clear HB; have HO676 := n0_; have HB := n1_; clear n0_ n1_; (try clear hb); (try clear hb2); (try clear hk); (try clear hi)) | ((with_reducible refine gate_callee (f := 69) rfl ?_); refine goesL_ (some 76) rfl rfl Try.func69 (by kernel_rfl) rfl #[.slice A0 l0.length c0, .int .i64 a1, .int .i64 a2, .slice none 0 0] rfl (by (try simp only [List.map_toArray, List.map_cons, List.map_nil]); first | done | rfl | (simp only [List.length_drop, List.length_take]; rfl)) ?_; (refine (impl_withLots.calls _ _ l0 a1 a2 _ _ ([] : List (S37)) t704 _ ?side1 ?side2 ?side3 ?side4 A53.out).mono ?_); (case side1 => repeat (first | exact (Kd.C_below HR0.out HB.out) | (with_reducible refine Kd.C_alloc ?_ _) | (with_reducible refine Kd.C_drewN ?_ _) | (with_reducible refine Kd.C_drew ?_))); (case side2 => exact HC0.out); (case side3 => exact Kd.C_nil _ _); (case side4 => exact Nat.le_refl _); rintro e w57 ⟨v705, rfl, ho0, hb⟩; refine ⟨_, rfl, ?_⟩; have n0_ := Aside0.mk (Kd.R_elder' (by (with_reducible repeat (first | apply Kd.R_alloc | apply Kd.R_drewN | apply Kd.R_drew)); exact HO676.out) (Kd.R_base ho0) hb); have n1_ := Aside0.mk (Kd.R_lower (Kd.R_new' ho0 (Kd.R_lt (by (with_reducible repeat (first | apply Kd.R_alloc | apply Kd.R_drewN | apply Kd.R_drew)); exact HO676.out))) (below_size (bb_))); have n2_ := Aside0.mk (below_step (bb_) hb); clear HO676; clear HB; have HO676 := n0_; have HO706 := n1_; have HB := n2_; clear n0_ n1_ n2_; (try clear hb); (try clear hb2); (try clear hk); (try clear hi); (try clear ho0)))
        go_ret3
        exact ⟨_, by first | rfl | (simp [errW_none, errW_some] <;> rfl) | (simp [*, errW_none, errW_some] <;> rfl), by (with_reducible repeat (first | apply Kd.R_alloc | apply Kd.R_drewN | apply Kd.R_drew)); exact Kd.R_mono HO706.out (fun _ hk => trivial), bb_⟩
mutual
def laws_FnExactLotTake.j0 : Nat → List (S34) → Int → Int → Int → Int → List (S37) → Int → Int → List (S37) → List (S37) → Int → Int → Bool → Option (Bool)
 | 0, _, _, _, _, _, _, _, _, _, _, _, _, _ => none
 | k + 1, x0, x1, x2, x3, x4, x12, x13, x14, x15, x16, x17, x18, x66 => if x66 = true then (none) else ((laws_toLotS.f k x0).bind fun t725 => ((laws_eqLotS.f k x15 t725).bind fun t728 => (if t728 = true then ((laws_markLotS.f k x15 1).bind fun bt729 => (if bt729.1 < 0 then (none) else ((laws_eqLotS.f k x16 x12).bind fun t731 => (if t731 = true then (if x17 = x13 then (laws_FnExactLotTake.j1 k x0 x1 x2 x3 x4 x12 x13 x14 x16 (x18 != x14)) else (none)) else (none))))) else (none))))
def laws_FnExactLotTake.j1 : Nat → List (S34) → Int → Int → Int → Int → List (S37) → Int → Int → List (S37) → Bool → Option (Bool)
 | 0, _, _, _, _, _, _, _, _, _, _ => none
 | k + 1, x0, x1, x2, x3, x4, x12, x13, x14, x16, x92 => if x92 = true then (none) else ((laws_markLotS.f k x16 1).bind fun bt732 => ((laws_heldLotS.f k bt732.2 1).bind fun t734 => (if t734 < 0 then (none) else (if t734 = bt732.1 then ((laws_toLotS.f k x0).bind fun t735 => ((impl_LotTake.f k t735 x1 x2 x3 x4).bind fun bt738 => ((laws_eqLotS.f k bt738.1 x12).bind fun t743 => (if t743 = true then (if bt738.2.1 = x13 then (laws_FnExactLotTake.j2 k bt732.2 bt732.1 (bt738.2.2 != x14)) else (none)) else (none))))) else (none)))))
def laws_FnExactLotTake.j2 : Nat → List (S37) → Int → Bool → Option (Bool)
 | 0, _, _, _ => none
 | k + 1, x16, x20, x128 => if x128 = true then (none) else ((laws_heldLotS.f k x16 1).bind fun t744 => (if t744 < 0 then (none) else (if t744 = x20 then (some true) else (none))))
end
def laws_FnExactLotTake.f (k : Nat) (l0 : List (S34)) (a1 : Int) (a2 : Int) (a3 : Int) (a4 : Int) : Option (Bool) := (laws_szLotS.f l0 1048576).bind fun t707 => (if t707 < 0 then (some true) else ((laws_toLotS.f k l0).bind fun t708 => ((spec_LotTake.f k t708 a1 a2 a3 a4).bind fun bt711 => ((laws_toLotS.f k l0).bind fun t716 => ((impl_LotTake.f k t716 a1 a2 a3 a4).bind fun bt719 => ((laws_eqLotS.f k bt719.1 bt711.1).bind fun t724 => (if t724 = true then (if bt719.2.1 = bt711.2.1 then (laws_FnExactLotTake.j0 k l0 a1 a2 a3 a4 bt711.1 bt711.2.1 bt711.2.2 t716 bt719.1 bt719.2.1 bt719.2.2 (bt719.2.2 != bt711.2.2)) else (none)) else (none))))))))
set_option maxHeartbeats 8000000 in
set_option maxRecDepth 100000 in
theorem laws_FnExactLotTake.calls (k : Nat) (A0 : Option Addr) (c0 : Nat) (l0 : List (S34)) (a1 : Int) (a2 : Int) (a3 : Int) (a4 : Int) (r : Bool) (w : World) (hr0 : Kd.C k34 w A0 l0.length l0) (hc0 : l0.length ≤ c0) (h : laws_FnExactLotTake.f k l0 a1 a2 a3 a4 = some r) :
 Calls Try.prog 9 #[.slice A0 l0.length c0, .int .i64 a1, .int .i64 a2, .int .i64 a3, .int .i64 a4] w fun e w' => e = .returned (.bool r) ∧ Below w.heap.size w w' := by
 have HR0 := Aside0.mk hr0
 have HC0 := Aside0.mk hc0
 clear hr0 hc0
 have HB := Aside0.mk (Below.refl w.heap.size w)
 have H : ((laws_szLotS.f l0 1048576).bind fun t707 => (if t707 < 0 then (some true) else ((laws_toLotS.f k l0).bind fun t708 => ((spec_LotTake.f k t708 a1 a2 a3 a4).bind fun bt711 => ((laws_toLotS.f k l0).bind fun t716 => ((impl_LotTake.f k t716 a1 a2 a3 a4).bind fun bt719 => ((laws_eqLotS.f k bt719.1 bt711.1).bind fun t724 => (if t724 = true then (if bt719.2.1 = bt711.2.1 then (laws_FnExactLotTake.j0 k l0 a1 a2 a3 a4 bt711.1 bt711.2.1 bt711.2.2 t716 bt719.1 bt719.2.1 bt719.2.2 (bt719.2.2 != bt711.2.2)) else (none)) else (none))))))))) = some r := h
 clear h
 replace H := Option.bind_eq_some_iff.mp H
 obtain ⟨t707, A60, H⟩ := H
 replace H : (if t707 < 0 then (some true) else ((laws_toLotS.f k l0).bind fun t708 => ((spec_LotTake.f k t708 a1 a2 a3 a4).bind fun bt711 => ((laws_toLotS.f k l0).bind fun t716 => ((impl_LotTake.f k t716 a1 a2 a3 a4).bind fun bt719 => ((laws_eqLotS.f k bt719.1 bt711.1).bind fun t724 => (if t724 = true then (if bt719.2.1 = bt711.2.1 then (laws_FnExactLotTake.j0 k l0 a1 a2 a3 a4 bt711.1 bt711.2.1 bt711.2.2 t716 bt719.1 bt719.2.1 bt719.2.2 (bt719.2.2 != bt711.2.2)) else (none)) else (none)))))))) = some r := H
 have A6 := Aside0.mk A60
 clear A60
 by_cases c7 : t707 < 0
 ·
  rw [if_pos c7] at H
  have c7b0 : decide (t707 < 0) = true := decide_eq_true c7
  clear c7
  obtain rfl := Option.some.inj H
  go_enter Try.func9, Try.ntmps9
  go_wp2_with (first | ((with_reducible refine gate_callee (f := 14) rfl ?_); refine goesL_ (some 27) rfl rfl Try.func14 (by kernel_rfl) rfl #[.slice A0 l0.length c0, .int .i64 1048576] rfl (by (try simp only [List.map_toArray, List.map_cons, List.map_nil]); first | done | rfl | (simp only [List.length_drop, List.length_take]; rfl)) ?_; (with_reducible refine (laws_szLotS.calls _ _ l0 1048576 t707 _ ?side1 ?side2 A6.out).mono ?_); (case side1 => repeat (first | exact HR0.out | (with_reducible refine Kd.C_alloc ?_ _) | (with_reducible refine Kd.C_drewN ?_ _) | (with_reducible refine Kd.C_drew ?_))); (case side2 => exact HC0.out); rintro e w' ⟨rfl, ⟨nd, rfl⟩⟩; refine ⟨_, rfl, ?_⟩))
  go_ret
  exact ⟨by first | rfl | (simp [errW_none, errW_some] <;> rfl) | (simp [*, errW_none, errW_some] <;> rfl), bb_⟩
 ·
  rw [if_neg c7] at H
  have c7b0 : decide (t707 < 0) = false := decide_eq_false c7
  clear c7
  replace H := Option.bind_eq_some_iff.mp H
  obtain ⟨t708, A80, H⟩ := H
  replace H : ((spec_LotTake.f k t708 a1 a2 a3 a4).bind fun bt711 => ((laws_toLotS.f k l0).bind fun t716 => ((impl_LotTake.f k t716 a1 a2 a3 a4).bind fun bt719 => ((laws_eqLotS.f k bt719.1 bt711.1).bind fun t724 => (if t724 = true then (if bt719.2.1 = bt711.2.1 then (laws_FnExactLotTake.j0 k l0 a1 a2 a3 a4 bt711.1 bt711.2.1 bt711.2.2 t716 bt719.1 bt719.2.1 bt719.2.2 (bt719.2.2 != bt711.2.2)) else (none)) else (none)))))) = some r := H
  have A8 := Aside0.mk A80
  clear A80
  replace H := Option.bind_eq_some_iff.mp H
  obtain ⟨⟨t711, t712, t713⟩, A90, H⟩ := H
  replace H : ((laws_toLotS.f k l0).bind fun t716 => ((impl_LotTake.f k t716 a1 a2 a3 a4).bind fun bt719 => ((laws_eqLotS.f k bt719.1 t711).bind fun t724 => (if t724 = true then (if bt719.2.1 = t712 then (laws_FnExactLotTake.j0 k l0 a1 a2 a3 a4 t711 t712 t713 t716 bt719.1 bt719.2.1 bt719.2.2 (bt719.2.2 != t713)) else (none)) else (none))))) = some r := H
  have A9 := Aside0.mk A90
  clear A90
  replace H := Option.bind_eq_some_iff.mp H
  obtain ⟨t716, A100, H⟩ := H
  replace H : ((impl_LotTake.f k t716 a1 a2 a3 a4).bind fun bt719 => ((laws_eqLotS.f k bt719.1 t711).bind fun t724 => (if t724 = true then (if bt719.2.1 = t712 then (laws_FnExactLotTake.j0 k l0 a1 a2 a3 a4 t711 t712 t713 t716 bt719.1 bt719.2.1 bt719.2.2 (bt719.2.2 != t713)) else (none)) else (none)))) = some r := H
  have A10 := Aside0.mk A100
  clear A100
  replace H := Option.bind_eq_some_iff.mp H
  obtain ⟨⟨t719, t720, t721⟩, A110, H⟩ := H
  replace H : ((laws_eqLotS.f k t719 t711).bind fun t724 => (if t724 = true then (if t720 = t712 then (laws_FnExactLotTake.j0 k l0 a1 a2 a3 a4 t711 t712 t713 t716 t719 t720 t721 (t721 != t713)) else (none)) else (none))) = some r := H
  have A11 := Aside0.mk A110
  clear A110
  have HC12 := Aside0.mk H
  clear H
  go_enter Try.func9, Try.ntmps9
  go_upto_region 8 with (first | ((with_reducible refine gate_callee (f := 14) rfl ?_); refine goesL_ (some 27) rfl rfl Try.func14 (by kernel_rfl) rfl #[.slice A0 l0.length c0, .int .i64 1048576] rfl (by (try simp only [List.map_toArray, List.map_cons, List.map_nil]); first | done | rfl | (simp only [List.length_drop, List.length_take]; rfl)) ?_; (with_reducible refine (laws_szLotS.calls _ _ l0 1048576 t707 _ ?side1 ?side2 A6.out).mono ?_); (case side1 => repeat (first | exact HR0.out | (with_reducible refine Kd.C_alloc ?_ _) | (with_reducible refine Kd.C_drewN ?_ _) | (with_reducible refine Kd.C_drew ?_))); (case side2 => exact HC0.out); rintro e w' ⟨rfl, ⟨nd, rfl⟩⟩; refine ⟨_, rfl, ?_⟩) | ((with_reducible refine gate_callee (f := 16) rfl ?_); refine goesL_ (some 32) rfl rfl Try.func16 (by kernel_rfl) rfl #[.slice A0 l0.length c0] rfl (by (try simp only [List.map_toArray, List.map_cons, List.map_nil]); first | done | rfl | (simp only [List.length_drop, List.length_take]; rfl)) ?_; (with_reducible refine (laws_toLotS.calls k _ _ l0 t708 _ ?side1 ?side2 A8.out).mono ?_); (case side1 => repeat (first | exact HR0.out | (with_reducible refine Kd.C_alloc ?_ _) | (with_reducible refine Kd.C_drewN ?_ _) | (with_reducible refine Kd.C_drew ?_))); (case side2 => exact HC0.out); rintro e w13 ⟨v709, rfl, ho0, hb⟩; refine ⟨_, rfl, ?_⟩; have n0_ := Aside0.mk (Kd.R_lower ho0 (below_size (bb_))); have n1_ := Aside0.mk (below_step (bb_) hb); clear HB; have HO710 := n0_; have HB := n1_; clear n0_ n1_; (try clear hb); (try clear hb2); (try clear hk); (try clear hi); (try clear ho0); obtain ⟨Ao14, co14, eo14⟩ := Kd.R_slice HO710.out; subst eo14) | ((with_reducible refine gate_callee (f := 33) rfl ?_); refine goesL_ (some 37) rfl rfl Try.func33 (by kernel_rfl) rfl #[.slice Ao14 t708.length co14, .int .i64 a1, .int .i64 a2, .int .i64 a3, .int .i64 a4] rfl (by (try simp only [List.map_toArray, List.map_cons, List.map_nil]); first | done | rfl | (simp only [List.length_drop, List.length_take]; rfl)) ?_; (with_reducible refine (spec_LotTake.calls k _ _ t708 a1 a2 a3 a4 t711 t712 t713 _ ?side1 ?side2 A9.out).mono ?_); (case side1 => repeat (first | exact (Kd.R_reads' HO710.out).2.2 | (with_reducible refine Kd.C_alloc ?_ _) | (with_reducible refine Kd.C_drewN ?_ _) | (with_reducible refine Kd.C_drew ?_))); (case side2 => exact (Kd.R_reads' HO710.out).2.1); rintro e w15 ⟨v714, rfl, ho0, hb⟩; refine ⟨_, rfl, ?_⟩; have n0_ := Aside0.mk (Kd.R_elder' (by (with_reducible repeat (first | apply Kd.R_alloc | apply Kd.R_drewN | apply Kd.R_drew)); exact HO710.out) (Kd.R_base ho0) hb); have n1_ := Aside0.mk (Kd.R_lower (Kd.R_new' ho0 (Kd.R_lt (by (with_reducible repeat (first | apply Kd.R_alloc | apply Kd.R_drewN | apply Kd.R_drew)); exact HO710.out))) (below_size (bb_))); have n2_ := Aside0.mk (below_step (bb_) hb); clear HO710; clear HB; have HO710 := n0_; have HO715 := n1_; have HB := n2_; clear n0_ n1_ n2_; (try clear hb); (try clear hb2); (try clear hk); (try clear hi); (try clear ho0)) | ((with_reducible refine gate_callee (f := 16) rfl ?_); refine goesL_ (some 42) rfl rfl Try.func16 (by kernel_rfl) rfl #[.slice A0 l0.length c0] rfl (by (try simp only [List.map_toArray, List.map_cons, List.map_nil]); first | done | rfl | (simp only [List.length_drop, List.length_take]; rfl)) ?_; (with_reducible refine (laws_toLotS.calls k _ _ l0 t716 _ ?side1 ?side2 A10.out).mono ?_); (case side1 => repeat (first | exact (Kd.C_below HR0.out HB.out) | (with_reducible refine Kd.C_alloc ?_ _) | (with_reducible refine Kd.C_drewN ?_ _) | (with_reducible refine Kd.C_drew ?_))); (case side2 => exact HC0.out); rintro e w16 ⟨v717, rfl, ho0, hb⟩; refine ⟨_, rfl, ?_⟩; have n0_ := Aside0.mk (Kd.R_elder' (by (with_reducible repeat (first | apply Kd.R_alloc | apply Kd.R_drewN | apply Kd.R_drew)); exact HO710.out) (Kd.R_base ho0) hb); have n1_ := Aside0.mk (Kd.R_elder' (by (with_reducible repeat (first | apply Kd.R_alloc | apply Kd.R_drewN | apply Kd.R_drew)); exact HO715.out) (Kd.R_base ho0) hb); have n2_ := Aside0.mk (Kd.R_lower (Kd.R_new' (Kd.R_new' ho0 (Kd.R_lt (by (with_reducible repeat (first | apply Kd.R_alloc | apply Kd.R_drewN | apply Kd.R_drew)); exact HO710.out))) (Kd.R_lt (by (with_reducible repeat (first | apply Kd.R_alloc | apply Kd.R_drewN | apply Kd.R_drew)); exact HO715.out))) (below_size (bb_))); have n3_ := Aside0.mk (below_step (bb_) hb); clear HO710; clear HO715; clear HB; have HO710 := n0_; have HO715 := n1_; have HO718 := n2_; have HB := n3_; clear n0_ n1_ n2_ n3_; (try clear hb); (try clear hb2); (try clear hk); (try clear hi); (try clear ho0); obtain ⟨Ao17, co17, eo17⟩ := Kd.R_slice HO718.out; subst eo17) | ((with_reducible refine gate_callee (f := 34) rfl ?_); refine goesL_ (some 49) rfl rfl Try.func34 (by kernel_rfl) rfl #[.slice Ao17 t716.length co17, .int .i64 a1, .int .i64 a2, .int .i64 a3, .int .i64 a4] rfl (by (try simp only [List.map_toArray, List.map_cons, List.map_nil]); first | done | rfl | (simp only [List.length_drop, List.length_take]; rfl)) ?_; (with_reducible refine (impl_LotTake.calls k _ _ t716 a1 a2 a3 a4 t719 t720 t721 _ ?side1 ?side2 A11.out).mono ?_); (case side1 => repeat (first | exact (Kd.R_reads' HO718.out).2.2 | (with_reducible refine Kd.C_alloc ?_ _) | (with_reducible refine Kd.C_drewN ?_ _) | (with_reducible refine Kd.C_drew ?_))); (case side2 => exact (Kd.R_reads' HO718.out).2.1); rintro e w18 ⟨v722, rfl, ho0, hb⟩; refine ⟨_, rfl, ?_⟩; have n0_ := Aside0.mk (Kd.R_elder' (by (with_reducible repeat (first | apply Kd.R_alloc | apply Kd.R_drewN | apply Kd.R_drew)); exact HO710.out) (Kd.R_base ho0) hb); have n1_ := Aside0.mk (Kd.R_elder' (by (with_reducible repeat (first | apply Kd.R_alloc | apply Kd.R_drewN | apply Kd.R_drew)); exact HO715.out) (Kd.R_base ho0) hb); have n2_ := Aside0.mk (Kd.R_elder' (by (with_reducible repeat (first | apply Kd.R_alloc | apply Kd.R_drewN | apply Kd.R_drew)); exact HO718.out) (Kd.R_base ho0) hb); have n3_ := Aside0.mk (Kd.R_lower (Kd.R_new' (Kd.R_new' (Kd.R_new' ho0 (Kd.R_lt (by (with_reducible repeat (first | apply Kd.R_alloc | apply Kd.R_drewN | apply Kd.R_drew)); exact HO710.out))) (Kd.R_lt (by (with_reducible repeat (first | apply Kd.R_alloc | apply Kd.R_drewN | apply Kd.R_drew)); exact HO715.out))) (Kd.R_lt (by (with_reducible repeat (first | apply Kd.R_alloc | apply Kd.R_drewN | apply Kd.R_drew)); exact HO718.out))) (below_size (bb_))); have n4_ := Aside0.mk (below_step (bb_) hb); clear HO710; clear HO715; clear HO718; clear HB; have HO710 := n0_; have HO715 := n1_; have HO718 := n2_; have HO723 := n3_; have HB := n4_; clear n0_ n1_ n2_ n3_ n4_; (try clear hb); (try clear hb2); (try clear hk); (try clear hi); (try clear ho0)))
  (try simp only [Act.put, List.setIfInBounds_toArray, List.set_cons_zero, List.set_cons_succ])
  go_cut [66] (fun v66 wc => ∃ (kq : Nat) (x66_11 : Bool), v66 = .bool x66_11 ∧ Aside0 (laws_FnExactLotTake.j0 kq l0 a1 a2 a3 a4 t711 t712 t713 t716 t719 t720 t721 x66_11 = some r) ∧ Aside0 (kq ≤ k) ∧ Aside0 (Kd.R k37 37 wc w.heap.size (fun k_ => some k_ ≠ ((.slice Ao17 t716.length co17) : Value).ownBlock ∧ some k_ ≠ (v722 : Value).ownBlock) v714 t711) ∧ Aside0 (Kd.R k37 37 wc w.heap.size (fun k_ => some k_ ≠ (v714 : Value).ownBlock ∧ some k_ ≠ (v722 : Value).ownBlock) (.slice Ao17 t716.length co17) t716) ∧ Aside0 (Kd.R k37 37 wc w.heap.size (fun k_ => some k_ ≠ (v714 : Value).ownBlock ∧ some k_ ≠ ((.slice Ao17 t716.length co17) : Value).ownBlock) v722 t719) ∧ Aside0 (Below w.heap.size w wc))
  case first =>
   have H := HC12.out
   clear HC12
   replace H := Option.bind_eq_some_iff.mp H
   obtain ⟨t724, A190, H⟩ := H
   replace H : (if t724 = true then (if t720 = t712 then (laws_FnExactLotTake.j0 k l0 a1 a2 a3 a4 t711 t712 t713 t716 t719 t720 t721 (t721 != t713)) else (none)) else (none)) = some r := H
   have A19 := Aside0.mk A190
   clear A190
   by_cases c20 : t724 = true
   ·
    subst c20
    have H1 : (if t720 = t712 then (laws_FnExactLotTake.j0 k l0 a1 a2 a3 a4 t711 t712 t713 t716 t719 t720 t721 (t721 != t713)) else (none)) = some r := by rw [if_pos rfl] at H; exact H
    clear H
    have H := H1
    clear H1
    by_cases c21 : t720 = t712
    ·
     rw [if_pos c21] at H
     have c21b0 : (t720 == t712) = true := beq_iff_eq.mpr c21
     have c21b1 : (t720 != t712) = false := bne_eq_false_iff_eq.mpr c21
     clear c21
     (first | rw [c21b0] | (simp only [i64_w, i32_w]; rw [c21b0]) | skip)
     have H' := Aside0.mk H
     clear H
     obtain ⟨Ao22, co22, eo22⟩ := Kd.R_slice HO723.out
     subst eo22
     obtain ⟨Ao23, co23, eo23⟩ := Kd.R_slice HO715.out
     subst eo23
     go_wp2_with (first | ((with_reducible refine gate_callee (f := 18) rfl ?_); refine goesL_ (some 55) rfl rfl Try.func18 (by kernel_rfl) rfl #[.slice Ao22 t719.length co22, .slice Ao23 t711.length co23] rfl (by (try simp only [List.map_toArray, List.map_cons, List.map_nil]); first | done | rfl | (simp only [List.length_drop, List.length_take]; rfl)) ?_; (with_reducible refine (laws_eqLotS.calls k _ _ t719 _ _ t711 true _ ?side1 ?side2 ?side3 ?side4 A19.out).mono ?_); (case side1 => repeat (first | exact (Kd.R_reads' HO723.out).2.2 | (with_reducible refine Kd.C_alloc ?_ _) | (with_reducible refine Kd.C_drewN ?_ _) | (with_reducible refine Kd.C_drew ?_))); (case side2 => exact (Kd.R_reads' HO723.out).2.1); (case side3 => repeat (first | exact (Kd.R_reads' HO715.out).2.2 | (with_reducible refine Kd.C_alloc ?_ _) | (with_reducible refine Kd.C_drewN ?_ _) | (with_reducible refine Kd.C_drew ?_))); (case side4 => exact (Kd.R_reads' HO715.out).2.1); rintro e w24 ⟨rfl, hb⟩; refine ⟨_, rfl, ?_⟩; have n0_ := Aside0.mk (Kd.R_below (by (with_reducible repeat (first | apply Kd.R_alloc | apply Kd.R_drewN | apply Kd.R_drew)); exact HO710.out) hb); have n1_ := Aside0.mk (Kd.R_below (by (with_reducible repeat (first | apply Kd.R_alloc | apply Kd.R_drewN | apply Kd.R_drew)); exact HO715.out) hb); have n2_ := Aside0.mk (Kd.R_below (by (with_reducible repeat (first | apply Kd.R_alloc | apply Kd.R_drewN | apply Kd.R_drew)); exact HO718.out) hb); have n3_ := Aside0.mk (Kd.R_below (by (with_reducible repeat (first | apply Kd.R_alloc | apply Kd.R_drewN | apply Kd.R_drew)); exact HO723.out) hb); have n4_ := Aside0.mk (below_step (bb_) hb); clear HO710; clear HO715; clear HO718; clear HO723; clear HB; have HO710 := n0_; have HO715 := n1_; have HO718 := n2_; have HO723 := n3_; have HB := n4_; clear n0_ n1_ n2_ n3_ n4_; (try clear hb); (try clear hb2); (try clear hk); (try clear hi)))
     go_meet
     case rel => exact ⟨_, ((t721 != t713)), (by first | rfl | (simp; done) | (simp [*]; done)), H', ⟨by first | omega | exact Nat.le_refl _⟩, ⟨by (with_reducible repeat (first | apply Kd.R_alloc | apply Kd.R_drewN | apply Kd.R_drew)); exact Kd.R_mono HO715.out (fun _ hk => ⟨hk.1.2, hk.2⟩)⟩, ⟨by (with_reducible repeat (first | apply Kd.R_alloc | apply Kd.R_drewN | apply Kd.R_drew)); exact Kd.R_mono HO718.out (fun _ hk => ⟨hk.1.2, hk.2⟩)⟩, ⟨by (with_reducible repeat (first | apply Kd.R_alloc | apply Kd.R_drewN | apply Kd.R_drew)); exact Kd.R_mono HO723.out (fun _ hk => ⟨hk.1.2, hk.2⟩)⟩, ⟨bb_⟩⟩
    ·
     rw [if_neg c21] at H
     exact absurd H (by simp)
   ·
    replace c20 := Bool.eq_false_iff.mpr c20
    subst c20
    have H1 : (none) = some r := by rw [if_neg (show ¬ (false = true) by decide)] at H; exact H
    clear H
    have H := H1
    clear H1
    exact absurd H (by simp)
  case rest =>
   clear HC12
   try clear c1
   try clear c2
   try clear p2
   try clear c3
   try clear c7
   try clear c7b0
   try clear c9
   try clear c14
   try clear c16
   try clear c18
   try clear c20
   try clear c21
   try clear c21b0
   try clear c21b1
   obtain ⟨kq, x66_11, rfl, HA, HJ11, HO_12, HO_15, HO_16, HB⟩ := hcut
   cases kq with
   | zero => exact absurd HA.out (by simp [laws_FnExactLotTake.j0])
   | succ kj11 =>
    have H := HA.out
    clear HA
    simp only [laws_FnExactLotTake.j0] at H
    by_cases c25 : x66_11 = true
    ·
     subst c25
     have H1 : (none) = some r := by rw [if_pos rfl] at H; exact H
     clear H
     have H := H1
     clear H1
     exact absurd H (by simp)
    ·
     replace c25 := Bool.eq_false_iff.mpr c25
     subst c25
     have H1 : ((laws_toLotS.f kj11 l0).bind fun t725 => ((laws_eqLotS.f kj11 t716 t725).bind fun t728 => (if t728 = true then ((laws_markLotS.f kj11 t716 1).bind fun bt729 => (if bt729.1 < 0 then (none) else ((laws_eqLotS.f kj11 t719 t711).bind fun t731 => (if t731 = true then (if t720 = t712 then (laws_FnExactLotTake.j1 kj11 l0 a1 a2 a3 a4 t711 t712 t713 t719 (t721 != t713)) else (none)) else (none))))) else (none)))) = some r := by rw [if_neg (show ¬ (false = true) by decide)] at H; exact H
     clear H
     have H := H1
     clear H1
     replace H := Option.bind_eq_some_iff.mp H
     obtain ⟨t725, A260, H⟩ := H
     replace H : ((laws_eqLotS.f kj11 t716 t725).bind fun t728 => (if t728 = true then ((laws_markLotS.f kj11 t716 1).bind fun bt729 => (if bt729.1 < 0 then (none) else ((laws_eqLotS.f kj11 t719 t711).bind fun t731 => (if t731 = true then (if t720 = t712 then (laws_FnExactLotTake.j1 kj11 l0 a1 a2 a3 a4 t711 t712 t713 t719 (t721 != t713)) else (none)) else (none))))) else (none))) = some r := H
     have A26 := Aside0.mk A260
     clear A260
     replace H := Option.bind_eq_some_iff.mp H
     obtain ⟨t728, A270, H⟩ := H
     replace H : (if t728 = true then ((laws_markLotS.f kj11 t716 1).bind fun bt729 => (if bt729.1 < 0 then (none) else ((laws_eqLotS.f kj11 t719 t711).bind fun t731 => (if t731 = true then (if t720 = t712 then (laws_FnExactLotTake.j1 kj11 l0 a1 a2 a3 a4 t711 t712 t713 t719 (t721 != t713)) else (none)) else (none))))) else (none)) = some r := H
     have A27 := Aside0.mk A270
     clear A270
     by_cases c28 : t728 = true
     ·
      subst c28
      have H1 : ((laws_markLotS.f kj11 t716 1).bind fun bt729 => (if bt729.1 < 0 then (none) else ((laws_eqLotS.f kj11 t719 t711).bind fun t731 => (if t731 = true then (if t720 = t712 then (laws_FnExactLotTake.j1 kj11 l0 a1 a2 a3 a4 t711 t712 t713 t719 (t721 != t713)) else (none)) else (none))))) = some r := by rw [if_pos rfl] at H; exact H
      clear H
      have H := H1
      clear H1
      replace H := Option.bind_eq_some_iff.mp H
      obtain ⟨⟨t729, t730⟩, A290, H⟩ := H
      replace H : (if t729 < 0 then (none) else ((laws_eqLotS.f kj11 t719 t711).bind fun t731 => (if t731 = true then (if t720 = t712 then (laws_FnExactLotTake.j1 kj11 l0 a1 a2 a3 a4 t711 t712 t713 t719 (t721 != t713)) else (none)) else (none)))) = some r := H
      have A29 := Aside0.mk A290
      clear A290
      have HC30 := Aside0.mk H
      clear H
      go_upto_region 14 with (first | ((with_reducible refine gate_callee (f := 16) rfl ?_); refine goesL_ (some 69) rfl rfl Try.func16 (by kernel_rfl) rfl #[.slice A0 l0.length c0] rfl (by (try simp only [List.map_toArray, List.map_cons, List.map_nil]); first | done | rfl | (simp only [List.length_drop, List.length_take]; rfl)) ?_; (with_reducible refine (laws_toLotS.calls kj11 _ _ l0 t725 _ ?side1 ?side2 A26.out).mono ?_); (case side1 => repeat (first | exact (Kd.C_below HR0.out HB.out) | (with_reducible refine Kd.C_alloc ?_ _) | (with_reducible refine Kd.C_drewN ?_ _) | (with_reducible refine Kd.C_drew ?_))); (case side2 => exact HC0.out); rintro e w31 ⟨v726, rfl, ho0, hb⟩; refine ⟨_, rfl, ?_⟩; have n0_ := Aside0.mk (Kd.R_elder' (by (with_reducible repeat (first | apply Kd.R_alloc | apply Kd.R_drewN | apply Kd.R_drew)); exact HO_12.out) (Kd.R_base ho0) hb); have n1_ := Aside0.mk (Kd.R_elder' (by (with_reducible repeat (first | apply Kd.R_alloc | apply Kd.R_drewN | apply Kd.R_drew)); exact HO_15.out) (Kd.R_base ho0) hb); have n2_ := Aside0.mk (Kd.R_elder' (by (with_reducible repeat (first | apply Kd.R_alloc | apply Kd.R_drewN | apply Kd.R_drew)); exact HO_16.out) (Kd.R_base ho0) hb); have n3_ := Aside0.mk (Kd.R_lower (Kd.R_new' (Kd.R_new' (Kd.R_new' ho0 (Kd.R_lt (by (with_reducible repeat (first | apply Kd.R_alloc | apply Kd.R_drewN | apply Kd.R_drew)); exact HO_12.out))) (Kd.R_lt (by (with_reducible repeat (first | apply Kd.R_alloc | apply Kd.R_drewN | apply Kd.R_drew)); exact HO_15.out))) (Kd.R_lt (by (with_reducible repeat (first | apply Kd.R_alloc | apply Kd.R_drewN | apply Kd.R_drew)); exact HO_16.out))) (below_size (bb_))); have n4_ := Aside0.mk (below_step (bb_) hb); clear HO_12; clear HO_15; clear HO_16; clear HB; have HO_12 := n0_; have HO_15 := n1_; have HO_16 := n2_; have HO727 := n3_; have HB := n4_; clear n0_ n1_ n2_ n3_ n4_; (try clear hb); (try clear hb2); (try clear hk); (try clear hi); (try clear ho0); obtain ⟨Ao32, co32, eo32⟩ := Kd.R_slice HO727.out; subst eo32) | ((with_reducible refine gate_callee (f := 18) rfl ?_); refine goesL_ (some 70) rfl rfl Try.func18 (by kernel_rfl) rfl #[.slice Ao17 t716.length co17, .slice Ao32 t725.length co32] rfl (by (try simp only [List.map_toArray, List.map_cons, List.map_nil]); first | done | rfl | (simp only [List.length_drop, List.length_take]; rfl)) ?_; (with_reducible refine (laws_eqLotS.calls kj11 _ _ t716 _ _ t725 true _ ?side1 ?side2 ?side3 ?side4 A27.out).mono ?_); (case side1 => repeat (first | exact (Kd.R_reads' HO_15.out).2.2 | (with_reducible refine Kd.C_alloc ?_ _) | (with_reducible refine Kd.C_drewN ?_ _) | (with_reducible refine Kd.C_drew ?_))); (case side2 => exact (Kd.R_reads' HO_15.out).2.1); (case side3 => repeat (first | exact (Kd.R_reads' HO727.out).2.2 | (with_reducible refine Kd.C_alloc ?_ _) | (with_reducible refine Kd.C_drewN ?_ _) | (with_reducible refine Kd.C_drew ?_))); (case side4 => exact (Kd.R_reads' HO727.out).2.1); rintro e w33 ⟨rfl, hb⟩; refine ⟨_, rfl, ?_⟩; have n0_ := Aside0.mk (Kd.R_below (by (with_reducible repeat (first | apply Kd.R_alloc | apply Kd.R_drewN | apply Kd.R_drew)); exact HO_12.out) hb); have n1_ := Aside0.mk (Kd.R_below (by (with_reducible repeat (first | apply Kd.R_alloc | apply Kd.R_drewN | apply Kd.R_drew)); exact HO_15.out) hb); have n2_ := Aside0.mk (Kd.R_below (by (with_reducible repeat (first | apply Kd.R_alloc | apply Kd.R_drewN | apply Kd.R_drew)); exact HO_16.out) hb); have n3_ := Aside0.mk (Kd.R_below (by (with_reducible repeat (first | apply Kd.R_alloc | apply Kd.R_drewN | apply Kd.R_drew)); exact HO727.out) hb); have n4_ := Aside0.mk (below_step (bb_) hb); clear HO_12; clear HO_15; clear HO_16; clear HO727; clear HB; have HO_12 := n0_; have HO_15 := n1_; have HO_16 := n2_; have HO727 := n3_; have HB := n4_; clear n0_ n1_ n2_ n3_ n4_; (try clear hb); (try clear hb2); (try clear hk); (try clear hi)) | ((with_reducible refine gate_callee (f := 25) rfl ?_); refine goesL_ (some 74) rfl rfl Try.func25 (by kernel_rfl) rfl #[.slice Ao17 t716.length co17, .int .i64 1] rfl (by (try simp only [List.map_toArray, List.map_cons, List.map_nil]); first | done | rfl | (simp only [List.length_drop, List.length_take]; rfl)) ?_; (with_reducible refine (laws_markLotS.calls kj11 (fun k_ => some k_ = (.slice Ao17 t716.length co17 : Value).ownBlock) (.slice Ao17 t716.length co17) t716 1 t729 t730 w _ ?side1 ?side2 A29.out).mono ?_); (case side1 => repeat (first | (with_reducible first | exact HB.out | apply below_alloc | apply pw_below_drewN | apply below_drew1) | exact HB.out)); (case side2 => exact Kd.R_tight rfl HO_15.out); rintro e w34 ⟨rfl, hy0, hb, hkp⟩; refine ⟨_, rfl, ?_⟩; have n0_ := Aside0.mk (Kd.R_mono (ok' := fun k_ => some k_ ≠ (.slice Ao17 t716.length co17 : Value).ownBlock ∧ some k_ ≠ (v722 : Value).ownBlock ∧ some k_ ≠ (.slice Ao32 t725.length co32 : Value).ownBlock) (Kd.R_keptB (HO_12.out) hkp (fun k_ hk_ hs_ => (hk_.1.1) hs_)) (fun k_ hk_ => ⟨hk_.1.1.1, hk_.1.1.2, hk_.1.2⟩)); have n1_ := Aside0.mk (Kd.R_reok rfl hy0 (fun k_ e_ => HO_15.out.1 k_ e_)); have n2_ := Aside0.mk (Kd.R_mono (ok' := fun k_ => some k_ ≠ (v714 : Value).ownBlock ∧ some k_ ≠ (.slice Ao17 t716.length co17 : Value).ownBlock ∧ some k_ ≠ (.slice Ao32 t725.length co32 : Value).ownBlock) (Kd.R_keptB (HO_16.out) hkp (fun k_ hk_ hs_ => (hk_.1.2) hs_)) (fun k_ hk_ => ⟨hk_.1.1.1, hk_.1.1.2, hk_.1.2⟩)); have n3_ := Aside0.mk (Kd.R_mono (ok' := fun k_ => some k_ ≠ (v714 : Value).ownBlock ∧ some k_ ≠ (.slice Ao17 t716.length co17 : Value).ownBlock ∧ some k_ ≠ (v722 : Value).ownBlock) (Kd.R_keptB (HO727.out) hkp (fun k_ hk_ hs_ => (hk_.1.2) hs_)) (fun k_ hk_ => ⟨hk_.1.1.1.2, hk_.1.1.2, hk_.1.2⟩)); have n4_ := Aside0.mk (hb); clear HO_12; clear HO_15; clear HO_16; clear HO727; clear HB; have HO_12 := n0_; have HO_15 := n1_; have HO_16 := n2_; have HO727 := n3_; have HB := n4_; clear n0_ n1_ n2_ n3_ n4_; (try clear hb); (try clear hkp); (try clear hy0)))
      (try simp only [Act.put, List.setIfInBounds_toArray, List.set_cons_zero, List.set_cons_succ])
      go_cut [92] (fun v92 wc => ∃ (kq : Nat) (x92_29 : Bool), v92 = .bool x92_29 ∧ Aside0 (laws_FnExactLotTake.j1 kq l0 a1 a2 a3 a4 t711 t712 t713 t719 x92_29 = some r) ∧ Aside0 (kq ≤ kj11) ∧ Aside0 (Kd.R k37 37 wc w.heap.size (fun k_ => some k_ ≠ (v722 : Value).ownBlock) v714 t711) ∧ Aside0 (Kd.R k37 37 wc w.heap.size (fun k_ => some k_ ≠ (v714 : Value).ownBlock) v722 t719) ∧ Aside0 (Below w.heap.size w wc))
      case first =>
       have H := HC30.out
       clear HC30
       by_cases c35 : t729 < 0
       ·
        rw [if_pos c35] at H
        exact absurd H (by simp)
       ·
        rw [if_neg c35] at H
        have c35b0 : decide (t729 < 0) = false := decide_eq_false c35
        clear c35
        (first | rw [c35b0] | (simp only [i64_w, i32_w]; rw [c35b0]) | skip)
        replace H := Option.bind_eq_some_iff.mp H
        obtain ⟨t731, A360, H⟩ := H
        replace H : (if t731 = true then (if t720 = t712 then (laws_FnExactLotTake.j1 kj11 l0 a1 a2 a3 a4 t711 t712 t713 t719 (t721 != t713)) else (none)) else (none)) = some r := H
        have A36 := Aside0.mk A360
        clear A360
        by_cases c37 : t731 = true
        ·
         subst c37
         have H1 : (if t720 = t712 then (laws_FnExactLotTake.j1 kj11 l0 a1 a2 a3 a4 t711 t712 t713 t719 (t721 != t713)) else (none)) = some r := by rw [if_pos rfl] at H; exact H
         clear H
         have H := H1
         clear H1
         by_cases c38 : t720 = t712
         ·
          rw [if_pos c38] at H
          have c38b0 : (t720 == t712) = true := beq_iff_eq.mpr c38
          have c38b1 : (t720 != t712) = false := bne_eq_false_iff_eq.mpr c38
          clear c38
          have H' := Aside0.mk H
          clear H
          obtain ⟨Ao39, co39, eo39⟩ := Kd.R_slice HO_16.out
          subst eo39
          obtain ⟨Ao40, co40, eo40⟩ := Kd.R_slice HO_12.out
          subst eo40
          go_wp2_with (first | (go_at_call 18; (with_reducible refine (laws_eqLotS.calls kj11 _ _ t719 _ _ t711 true _ ?side1 ?side2 ?side3 ?side4 A36.out).mono ?_); (case side1 => repeat (first | exact (Kd.R_reads' HO_16.out).2.2 | (with_reducible refine Kd.C_alloc ?_ _) | (with_reducible refine Kd.C_drewN ?_ _) | (with_reducible refine Kd.C_drew ?_))); (case side2 => exact (Kd.R_reads' HO_16.out).2.1); (case side3 => repeat (first | exact (Kd.R_reads' HO_12.out).2.2 | (with_reducible refine Kd.C_alloc ?_ _) | (with_reducible refine Kd.C_drewN ?_ _) | (with_reducible refine Kd.C_drew ?_))); (case side4 => exact (Kd.R_reads' HO_12.out).2.1); rintro e w41 ⟨rfl, hb⟩; have n0_ := Aside0.mk (Kd.R_below (by (with_reducible repeat (first | apply Kd.R_alloc | apply Kd.R_drewN | apply Kd.R_drew)); exact HO_12.out) hb); have n1_ := Aside0.mk (Kd.R_below (by (with_reducible repeat (first | apply Kd.R_alloc | apply Kd.R_drewN | apply Kd.R_drew)); exact HO_15.out) hb); have n2_ := Aside0.mk (Kd.R_below (by (with_reducible repeat (first | apply Kd.R_alloc | apply Kd.R_drewN | apply Kd.R_drew)); exact HO_16.out) hb); have n3_ := Aside0.mk (Kd.R_below (by (with_reducible repeat (first | apply Kd.R_alloc | apply Kd.R_drewN | apply Kd.R_drew)); exact HO727.out) hb); have n4_ := Aside0.mk (below_step (bb_) hb); clear HO_12; clear HO_15; clear HO_16; clear HO727; clear HB; have HO_12 := n0_; have HO_15 := n1_; have HO_16 := n2_; have HO727 := n3_; have HB := n4_; clear n0_ n1_ n2_ n3_ n4_; (try clear hb); (try clear hb2); (try clear hk); (try clear hi)))
          go_meet
          case rel => exact ⟨_, ((t721 != t713)), (by first | rfl | (simp; done) | (simp [*]; done)), H', ⟨by have := HJ11.out; first | omega | exact Nat.le_refl _⟩, ⟨by (with_reducible repeat (first | apply Kd.R_alloc | apply Kd.R_drewN | apply Kd.R_drew)); exact Kd.R_mono HO_12.out (fun _ hk => hk.2.1)⟩, ⟨by (with_reducible repeat (first | apply Kd.R_alloc | apply Kd.R_drewN | apply Kd.R_drew)); exact Kd.R_mono HO_16.out (fun _ hk => hk.1)⟩, ⟨bb_⟩⟩
         ·
          rw [if_neg c38] at H
          exact absurd H (by simp)
        ·
         replace c37 := Bool.eq_false_iff.mpr c37
         subst c37
         have H1 : (none) = some r := by rw [if_neg (show ¬ (false = true) by decide)] at H; exact H
         clear H
         have H := H1
         clear H1
         exact absurd H (by simp)
      case rest =>
       clear HC30
       try clear c1
       try clear c2
       try clear p2
       try clear c3
       try clear c7
       try clear c7b0
       try clear c9
       try clear c14
       try clear c16
       try clear c18
       try clear c20
       try clear c21
       try clear c21b0
       try clear c21b1
       try clear c25
       try clear c28
       try clear c33
       try clear c34
       try clear c35
       try clear c35b0
       try clear c37
       try clear c38
       try clear c38b0
       try clear c38b1
       try clear p2
       obtain ⟨kq, x92_29, rfl, HA, HJ29, HO_12, HO_16, HB⟩ := hcut
       cases kq with
       | zero => exact absurd HA.out (by simp [laws_FnExactLotTake.j1])
       | succ kj29 =>
        have H := HA.out
        clear HA
        simp only [laws_FnExactLotTake.j1] at H
        by_cases c42 : x92_29 = true
        ·
         subst c42
         have H1 : (none) = some r := by rw [if_pos rfl] at H; exact H
         clear H
         have H := H1
         clear H1
         exact absurd H (by simp)
        ·
         replace c42 := Bool.eq_false_iff.mpr c42
         subst c42
         have H1 : ((laws_markLotS.f kj29 t719 1).bind fun bt732 => ((laws_heldLotS.f kj29 bt732.2 1).bind fun t734 => (if t734 < 0 then (none) else (if t734 = bt732.1 then ((laws_toLotS.f kj29 l0).bind fun t735 => ((impl_LotTake.f kj29 t735 a1 a2 a3 a4).bind fun bt738 => ((laws_eqLotS.f kj29 bt738.1 t711).bind fun t743 => (if t743 = true then (if bt738.2.1 = t712 then (laws_FnExactLotTake.j2 kj29 bt732.2 bt732.1 (bt738.2.2 != t713)) else (none)) else (none))))) else (none))))) = some r := by rw [if_neg (show ¬ (false = true) by decide)] at H; exact H
         clear H
         have H := H1
         clear H1
         replace H := Option.bind_eq_some_iff.mp H
         obtain ⟨⟨t732, t733⟩, A430, H⟩ := H
         replace H : ((laws_heldLotS.f kj29 t733 1).bind fun t734 => (if t734 < 0 then (none) else (if t734 = t732 then ((laws_toLotS.f kj29 l0).bind fun t735 => ((impl_LotTake.f kj29 t735 a1 a2 a3 a4).bind fun bt738 => ((laws_eqLotS.f kj29 bt738.1 t711).bind fun t743 => (if t743 = true then (if bt738.2.1 = t712 then (laws_FnExactLotTake.j2 kj29 t733 t732 (bt738.2.2 != t713)) else (none)) else (none))))) else (none)))) = some r := H
         have A43 := Aside0.mk A430
         clear A430
         replace H := Option.bind_eq_some_iff.mp H
         obtain ⟨t734, A440, H⟩ := H
         replace H : (if t734 < 0 then (none) else (if t734 = t732 then ((laws_toLotS.f kj29 l0).bind fun t735 => ((impl_LotTake.f kj29 t735 a1 a2 a3 a4).bind fun bt738 => ((laws_eqLotS.f kj29 bt738.1 t711).bind fun t743 => (if t743 = true then (if bt738.2.1 = t712 then (laws_FnExactLotTake.j2 kj29 t733 t732 (bt738.2.2 != t713)) else (none)) else (none))))) else (none))) = some r := H
         have A44 := Aside0.mk A440
         clear A440
         by_cases c45 : t734 < 0
         ·
          rw [if_pos c45] at H
          exact absurd H (by simp)
         ·
          rw [if_neg c45] at H
          have c45b0 : decide (t734 < 0) = false := decide_eq_false c45
          clear c45
          by_cases c46 : t734 = t732
          ·
           rw [if_pos c46] at H
           have c46b0 : (t734 == t732) = true := beq_iff_eq.mpr c46
           have c46b1 : (t734 != t732) = false := bne_eq_false_iff_eq.mpr c46
           clear c46
           replace H := Option.bind_eq_some_iff.mp H
           obtain ⟨t735, A470, H⟩ := H
           replace H : ((impl_LotTake.f kj29 t735 a1 a2 a3 a4).bind fun bt738 => ((laws_eqLotS.f kj29 bt738.1 t711).bind fun t743 => (if t743 = true then (if bt738.2.1 = t712 then (laws_FnExactLotTake.j2 kj29 t733 t732 (bt738.2.2 != t713)) else (none)) else (none)))) = some r := H
           have A47 := Aside0.mk A470
           clear A470
           replace H := Option.bind_eq_some_iff.mp H
           obtain ⟨⟨t738, t739, t740⟩, A480, H⟩ := H
           replace H : ((laws_eqLotS.f kj29 t738 t711).bind fun t743 => (if t743 = true then (if t739 = t712 then (laws_FnExactLotTake.j2 kj29 t733 t732 (t740 != t713)) else (none)) else (none))) = some r := H
           have A48 := Aside0.mk A480
           clear A480
           have HC49 := Aside0.mk H
           clear H
           obtain ⟨Ao50, co50, eo50⟩ := Kd.R_slice HO_16.out
           subst eo50
           go_upto_region 25 with (first | ((with_reducible refine gate_callee (f := 25) rfl ?_); refine goesL_ (some 95) rfl rfl Try.func25 (by kernel_rfl) rfl #[.slice Ao50 t719.length co50, .int .i64 1] rfl (by (try simp only [List.map_toArray, List.map_cons, List.map_nil]); first | done | rfl | (simp only [List.length_drop, List.length_take]; rfl)) ?_; (with_reducible refine (laws_markLotS.calls kj29 (fun k_ => some k_ = (.slice Ao50 t719.length co50 : Value).ownBlock) (.slice Ao50 t719.length co50) t719 1 t732 t733 w _ ?side1 ?side2 A43.out).mono ?_); (case side1 => repeat (first | (with_reducible first | exact HB.out | apply below_alloc | apply pw_below_drewN | apply below_drew1) | exact HB.out)); (case side2 => exact Kd.R_tight rfl HO_16.out); rintro e w51 ⟨rfl, hy0, hb, hkp⟩; refine ⟨_, rfl, ?_⟩; have n0_ := Aside0.mk (Kd.R_mono (ok' := fun k_ => some k_ ≠ (.slice Ao50 t719.length co50 : Value).ownBlock) (Kd.R_keptB (HO_12.out) hkp (fun k_ hk_ hs_ => (hk_) hs_)) (fun k_ hk_ => hk_.1)); have n1_ := Aside0.mk (Kd.R_reok rfl hy0 (fun k_ e_ => HO_16.out.1 k_ e_)); have n2_ := Aside0.mk (hb); clear HO_12; clear HO_16; clear HB; have HO_12 := n0_; have HO_16 := n1_; have HB := n2_; clear n0_ n1_ n2_; (try clear hb); (try clear hkp); (try clear hy0)) | ((with_reducible refine gate_callee (f := 26) rfl ?_); refine goesL_ (some 98) rfl rfl Try.func26 (by kernel_rfl) rfl #[.slice Ao50 t733.length co50, .int .i64 1] rfl (by (try simp only [List.map_toArray, List.map_cons, List.map_nil]); first | done | (rw [show t733.length = t719.length from (Kd.R_reads' HO_16.out).1.symm] <;> rfl) | rfl | (simp only [List.length_drop, List.length_take]; rfl)) ?_; (with_reducible refine (laws_heldLotS.calls kj29 _ _ t733 1 t734 _ ?side1 ?side2 A44.out).mono ?_); (case side1 => repeat (first | exact (Kd.R_reads' HO_16.out).2.2 | (with_reducible refine Kd.C_alloc ?_ _) | (with_reducible refine Kd.C_drewN ?_ _) | (with_reducible refine Kd.C_drew ?_))); (case side2 => rw [show t733.length = t719.length from (Kd.R_reads' HO_16.out).1.symm]; exact (Kd.R_reads' HO_16.out).2.1); rintro e w' ⟨rfl, ⟨nd, rfl⟩⟩; refine ⟨_, rfl, ?_⟩) | ((with_reducible refine gate_callee (f := 16) rfl ?_); refine goesL_ (some 106) rfl rfl Try.func16 (by kernel_rfl) rfl #[.slice A0 l0.length c0] rfl (by (try simp only [List.map_toArray, List.map_cons, List.map_nil]); first | done | rfl | (simp only [List.length_drop, List.length_take]; rfl)) ?_; (with_reducible refine (laws_toLotS.calls kj29 _ _ l0 t735 _ ?side1 ?side2 A47.out).mono ?_); (case side1 => repeat (first | exact (Kd.C_below HR0.out (bb_)) | (with_reducible refine Kd.C_alloc ?_ _) | (with_reducible refine Kd.C_drewN ?_ _) | (with_reducible refine Kd.C_drew ?_))); (case side2 => exact HC0.out); rintro e w52 ⟨v736, rfl, ho0, hb⟩; refine ⟨_, rfl, ?_⟩; have n0_ := Aside0.mk (Kd.R_elder' (by (with_reducible repeat (first | apply Kd.R_alloc | apply Kd.R_drewN | apply Kd.R_drew)); exact HO_12.out) (Kd.R_base ho0) hb); have n1_ := Aside0.mk (Kd.R_elder' (by (with_reducible repeat (first | apply Kd.R_alloc | apply Kd.R_drewN | apply Kd.R_drew)); exact HO_16.out) (Kd.R_base ho0) hb); have n2_ := Aside0.mk (Kd.R_lower (Kd.R_new' (Kd.R_new' ho0 (Kd.R_lt (by (with_reducible repeat (first | apply Kd.R_alloc | apply Kd.R_drewN | apply Kd.R_drew)); exact HO_12.out))) (Kd.R_lt (by (with_reducible repeat (first | apply Kd.R_alloc | apply Kd.R_drewN | apply Kd.R_drew)); exact HO_16.out))) (below_size (bb_))); have n3_ := Aside0.mk (below_step (bb_) hb); clear HO_12; clear HO_16; clear HB; have HO_12 := n0_; have HO_16 := n1_; have HO737 := n2_; have HB := n3_; clear n0_ n1_ n2_ n3_; (try clear hb); (try clear hb2); (try clear hk); (try clear hi); (try clear ho0); obtain ⟨Ao53, co53, eo53⟩ := Kd.R_slice HO737.out; subst eo53) | ((with_reducible refine gate_callee (f := 34) rfl ?_); refine goesL_ (some 111) rfl rfl Try.func34 (by kernel_rfl) rfl #[.slice Ao53 t735.length co53, .int .i64 a1, .int .i64 a2, .int .i64 a3, .int .i64 a4] rfl (by (try simp only [List.map_toArray, List.map_cons, List.map_nil]); first | done | rfl | (simp only [List.length_drop, List.length_take]; rfl)) ?_; (with_reducible refine (impl_LotTake.calls kj29 _ _ t735 a1 a2 a3 a4 t738 t739 t740 _ ?side1 ?side2 A48.out).mono ?_); (case side1 => repeat (first | exact (Kd.R_reads' HO737.out).2.2 | (with_reducible refine Kd.C_alloc ?_ _) | (with_reducible refine Kd.C_drewN ?_ _) | (with_reducible refine Kd.C_drew ?_))); (case side2 => exact (Kd.R_reads' HO737.out).2.1); rintro e w54 ⟨v741, rfl, ho0, hb⟩; refine ⟨_, rfl, ?_⟩; have n0_ := Aside0.mk (Kd.R_elder' (by (with_reducible repeat (first | apply Kd.R_alloc | apply Kd.R_drewN | apply Kd.R_drew)); exact HO_12.out) (Kd.R_base ho0) hb); have n1_ := Aside0.mk (Kd.R_elder' (by (with_reducible repeat (first | apply Kd.R_alloc | apply Kd.R_drewN | apply Kd.R_drew)); exact HO_16.out) (Kd.R_base ho0) hb); have n2_ := Aside0.mk (Kd.R_elder' (by (with_reducible repeat (first | apply Kd.R_alloc | apply Kd.R_drewN | apply Kd.R_drew)); exact HO737.out) (Kd.R_base ho0) hb); have n3_ := Aside0.mk (Kd.R_lower (Kd.R_new' (Kd.R_new' (Kd.R_new' ho0 (Kd.R_lt (by (with_reducible repeat (first | apply Kd.R_alloc | apply Kd.R_drewN | apply Kd.R_drew)); exact HO_12.out))) (Kd.R_lt (by (with_reducible repeat (first | apply Kd.R_alloc | apply Kd.R_drewN | apply Kd.R_drew)); exact HO_16.out))) (Kd.R_lt (by (with_reducible repeat (first | apply Kd.R_alloc | apply Kd.R_drewN | apply Kd.R_drew)); exact HO737.out))) (below_size (bb_))); have n4_ := Aside0.mk (below_step (bb_) hb); clear HO_12; clear HO_16; clear HO737; clear HB; have HO_12 := n0_; have HO_16 := n1_; have HO737 := n2_; have HO742 := n3_; have HB := n4_; clear n0_ n1_ n2_ n3_ n4_; (try clear hb); (try clear hb2); (try clear hk); (try clear hi); (try clear ho0)))
           (try simp only [Act.put, List.setIfInBounds_toArray, List.set_cons_zero, List.set_cons_succ])
           go_cut [128] (fun v128 wc => ∃ (kq : Nat) (x128_48 : Bool), v128 = .bool x128_48 ∧ Aside0 (laws_FnExactLotTake.j2 kq t733 t732 x128_48 = some r) ∧ Aside0 (kq ≤ kj29) ∧ Aside0 (Kd.R k37 37 wc w.heap.size (fun _ => True) (.slice Ao50 t719.length co50) t733) ∧ Aside0 (Below w.heap.size w wc))
           case first =>
            have H := HC49.out
            clear HC49
            replace H := Option.bind_eq_some_iff.mp H
            obtain ⟨t743, A550, H⟩ := H
            replace H : (if t743 = true then (if t739 = t712 then (laws_FnExactLotTake.j2 kj29 t733 t732 (t740 != t713)) else (none)) else (none)) = some r := H
            have A55 := Aside0.mk A550
            clear A550
            by_cases c56 : t743 = true
            ·
             subst c56
             have H1 : (if t739 = t712 then (laws_FnExactLotTake.j2 kj29 t733 t732 (t740 != t713)) else (none)) = some r := by rw [if_pos rfl] at H; exact H
             clear H
             have H := H1
             clear H1
             by_cases c57 : t739 = t712
             ·
              rw [if_pos c57] at H
              have c57b0 : (t739 == t712) = true := beq_iff_eq.mpr c57
              have c57b1 : (t739 != t712) = false := bne_eq_false_iff_eq.mpr c57
              clear c57
              (first | rw [c57b0] | (simp only [i64_w, i32_w]; rw [c57b0]) | skip)
              have H' := Aside0.mk H
              clear H
              obtain ⟨Ao58, co58, eo58⟩ := Kd.R_slice HO742.out
              subst eo58
              obtain ⟨Ao59, co59, eo59⟩ := Kd.R_slice HO_12.out
              subst eo59
              go_wp2_with (first | ((with_reducible refine gate_callee (f := 18) rfl ?_); refine goesL_ (some 117) rfl rfl Try.func18 (by kernel_rfl) rfl #[.slice Ao58 t738.length co58, .slice Ao59 t711.length co59] rfl (by (try simp only [List.map_toArray, List.map_cons, List.map_nil]); first | done | rfl | (simp only [List.length_drop, List.length_take]; rfl)) ?_; (with_reducible refine (laws_eqLotS.calls kj29 _ _ t738 _ _ t711 true _ ?side1 ?side2 ?side3 ?side4 A55.out).mono ?_); (case side1 => repeat (first | exact (Kd.R_reads' HO742.out).2.2 | (with_reducible refine Kd.C_alloc ?_ _) | (with_reducible refine Kd.C_drewN ?_ _) | (with_reducible refine Kd.C_drew ?_))); (case side2 => exact (Kd.R_reads' HO742.out).2.1); (case side3 => repeat (first | exact (Kd.R_reads' HO_12.out).2.2 | (with_reducible refine Kd.C_alloc ?_ _) | (with_reducible refine Kd.C_drewN ?_ _) | (with_reducible refine Kd.C_drew ?_))); (case side4 => exact (Kd.R_reads' HO_12.out).2.1); rintro e w60 ⟨rfl, hb⟩; refine ⟨_, rfl, ?_⟩; have n0_ := Aside0.mk (Kd.R_below (by (with_reducible repeat (first | apply Kd.R_alloc | apply Kd.R_drewN | apply Kd.R_drew)); exact HO_12.out) hb); have n1_ := Aside0.mk (Kd.R_below (by (with_reducible repeat (first | apply Kd.R_alloc | apply Kd.R_drewN | apply Kd.R_drew)); exact HO_16.out) hb); have n2_ := Aside0.mk (Kd.R_below (by (with_reducible repeat (first | apply Kd.R_alloc | apply Kd.R_drewN | apply Kd.R_drew)); exact HO737.out) hb); have n3_ := Aside0.mk (Kd.R_below (by (with_reducible repeat (first | apply Kd.R_alloc | apply Kd.R_drewN | apply Kd.R_drew)); exact HO742.out) hb); have n4_ := Aside0.mk (below_step (bb_) hb); clear HO_12; clear HO_16; clear HO737; clear HO742; clear HB; have HO_12 := n0_; have HO_16 := n1_; have HO737 := n2_; have HO742 := n3_; have HB := n4_; clear n0_ n1_ n2_ n3_ n4_; (try clear hb); (try clear hb2); (try clear hk); (try clear hi)))
              go_meet
              case rel => exact ⟨_, ((t740 != t713)), (by first | rfl | (simp; done) | (simp [*]; done)), H', ⟨by have := HJ11.out; have := HJ29.out; first | omega | exact Nat.le_refl _⟩, ⟨by (with_reducible repeat (first | apply Kd.R_alloc | apply Kd.R_drewN | apply Kd.R_drew)); exact Kd.R_mono HO_16.out (fun _ hk => trivial)⟩, ⟨bb_⟩⟩
             ·
              rw [if_neg c57] at H
              exact absurd H (by simp)
            ·
             replace c56 := Bool.eq_false_iff.mpr c56
             subst c56
             have H1 : (none) = some r := by rw [if_neg (show ¬ (false = true) by decide)] at H; exact H
             clear H
             have H := H1
             clear H1
             exact absurd H (by simp)
           case rest =>
            clear HC49
            try clear c1
            try clear c2
            try clear p2
            try clear c3
            try clear c4
            try clear c5
            try clear c7
            try clear c7b0
            try clear c9
            try clear c14
            try clear c16
            try clear c18
            try clear c20
            try clear c21
            try clear c21b0
            try clear c21b1
            try clear c25
            try clear c26
            try clear c28
            try clear c33
            try clear c34
            try clear c35
            try clear c35b0
            try clear c37
            try clear c38
            try clear c38b0
            try clear c38b1
            try clear c42
            try clear c45
            try clear c45b0
            try clear c46
            try clear c46b0
            try clear c46b1
            try clear c56
            try clear c57
            try clear c57b0
            try clear c57b1
            try clear p2
            obtain ⟨kq, x128_48, rfl, HA, HJ48, HO_16, HB⟩ := hcut
            have hl16_48 := (Kd.R_reads' HO_16.out).1
            rw [hl16_48] at HO_16
            (try simp only [hl16_48])
            cases kq with
            | zero => exact absurd HA.out (by simp [laws_FnExactLotTake.j2])
            | succ kj48 =>
             have H := HA.out
             clear HA
             simp only [laws_FnExactLotTake.j2] at H
             by_cases c61 : x128_48 = true
             ·
              subst c61
              have H1 : (none) = some r := by rw [if_pos rfl] at H; exact H
              clear H
              have H := H1
              clear H1
              exact absurd H (by simp)
             ·
              replace c61 := Bool.eq_false_iff.mpr c61
              subst c61
              have H1 : ((laws_heldLotS.f kj48 t733 1).bind fun t744 => (if t744 < 0 then (none) else (if t744 = t732 then (some true) else (none)))) = some r := by rw [if_neg (show ¬ (false = true) by decide)] at H; exact H
              clear H
              have H := H1
              clear H1
              replace H := Option.bind_eq_some_iff.mp H
              obtain ⟨t744, A620, H⟩ := H
              replace H : (if t744 < 0 then (none) else (if t744 = t732 then (some true) else (none))) = some r := H
              have A62 := Aside0.mk A620
              clear A620
              by_cases c63 : t744 < 0
              ·
               rw [if_pos c63] at H
               exact absurd H (by simp)
              ·
               rw [if_neg c63] at H
               have c63b0 : decide (t744 < 0) = false := decide_eq_false c63
               clear c63
               by_cases c64 : t744 = t732
               ·
                rw [if_pos c64] at H
                have c64b0 : (t744 == t732) = true := beq_iff_eq.mpr c64
                have c64b1 : (t744 != t732) = false := bne_eq_false_iff_eq.mpr c64
                clear c64
                obtain rfl := Option.some.inj H
                go_wp2_with (first | ((with_reducible refine gate_callee (f := 26) rfl ?_); refine goesL_ (some 131) rfl rfl Try.func26 (by kernel_rfl) rfl #[.slice Ao50 t733.length co50, .int .i64 1] rfl (by (try simp only [List.map_toArray, List.map_cons, List.map_nil]); first | done | rfl | (simp only [List.length_drop, List.length_take]; rfl)) ?_; (with_reducible refine (laws_heldLotS.calls kj48 _ _ t733 1 t744 _ ?side1 ?side2 A62.out).mono ?_); (case side1 => repeat (first | exact (Kd.R_reads' HO_16.out).2.2 | (with_reducible refine Kd.C_alloc ?_ _) | (with_reducible refine Kd.C_drewN ?_ _) | (with_reducible refine Kd.C_drew ?_))); (case side2 => exact (Kd.R_reads' HO_16.out).2.1); rintro e w' ⟨rfl, ⟨nd, rfl⟩⟩; refine ⟨_, rfl, ?_⟩))
                go_ret
                exact ⟨by first | rfl | (simp [errW_none, errW_some] <;> rfl) | (simp [*, errW_none, errW_some] <;> rfl), bb_⟩
               ·
                rw [if_neg c64] at H
                exact absurd H (by simp)
          ·
           rw [if_neg c46] at H
           exact absurd H (by simp)
     ·
      replace c28 := Bool.eq_false_iff.mpr c28
      subst c28
      have H1 : (none) = some r := by rw [if_neg (show ¬ (false = true) by decide)] at H; exact H
      clear H
      have H := H1
      clear H1
      exact absurd H (by simp)
end Go.Proofs.Ytomanpmffjkkgaa.P
namespace Go.Proofs.Ytomanpmffjkkgaa.EV
open Go Go.RowKit Go.Proofs.YtomanpmffjkkgaaW.PrintWords
theorem w64_in (n : Int) (h0 : -9223372036854775808 ≤ n) (h1 : n ≤ 9223372036854775807) : wrap64 n = n := by unfold wrap64; omega
theorem w_succ {i n : Nat} (h : i < n) (hn : n ≤ 9223372036854775807) : wrap64 ((i : Int) + 1) = ((i + 1 : Nat) : Int) := by unfold wrap64; omega
theorem w_pred {i n : Nat} (h : i < n) (hp : 0 < i) (hn : n ≤ 9223372036854775807) : wrap64 ((i : Int) - 1) = ((i - 1 : Nat) : Int) := by unfold wrap64; omega
theorem Ev_one {α : Type} {g : Nat → Option α} {r : α} (h : ∀ k, g (k + 1) = some r) : Ev g r := ⟨1, fun k hk => by
  obtain ⟨k, rfl⟩ : ∃ m, k = m + 1 := ⟨k - 1, by omega⟩
  exact h k⟩
theorem Ev_all_k {α : Type} {g : Nat → Option α} {r : α} (h : ∀ k, g k = some r) : Ev g r := ⟨0, fun k _ => h k⟩
theorem Ev_bind {α β : Type} {g : Nat → Option α} {f : Nat → α → Option β} {a : α} {r : β} (h : Ev g a) (k : Ev (fun n => f n a) r) : Ev (fun n => (g n).bind (f n)) r := Ev.bind h k
theorem Ev_asks (l : Nat → Int → Option Bool) (n : Nat) (G : Nat → Prop) (fin : Bool) (h0 : Ev (fun k => l k (n : Int)) fin)
    (hs : ∀ i : Nat, i < n → (G i ∧ ∀ k, l (k + 1) (i : Int) = l k ((i + 1 : Nat) : Int)) ∨ (¬ G i ∧ ∀ k, l (k + 1) (i : Int) = some false)) :
    ∀ (d i : Nat), n - i = d → i ≤ n → ∃ r, Ev (fun k => l k (i : Int)) r ∧ (r = true ↔ (∀ j, i ≤ j → j < n → G j) ∧ fin = true) := by
  intro d
  induction d with
  | zero =>
    intro i hd hi
    obtain rfl : i = n := by omega
    exact ⟨fin, h0, ⟨fun h => ⟨fun j h1 h2 => by omega, h⟩, fun h => h.2⟩⟩
  | succ d ih =>
    intro i hd hi
    rcases hs i (by omega) with ⟨hg, he⟩ | ⟨hg, he⟩
    · obtain ⟨r, hr, hiff⟩ := ih (i + 1) (by omega) (by omega)
      refine ⟨r, Ev.step he hr, ?_⟩
      rw [hiff]
      constructor
      · rintro ⟨h1, h2⟩
        refine ⟨fun j h3 h4 => ?_, h2⟩
        rcases Nat.eq_or_lt_of_le h3 with h5 | h5
        · exact h5 ▸ hg
        · exact h1 j h5 h4
      · rintro ⟨h1, h2⟩
        exact ⟨fun j h3 h4 => h1 j (by omega) h4, h2⟩
    · refine ⟨false, Ev_one he, ⟨fun h => Bool.noConfusion h, fun h => absurd (h.1 i (Nat.le_refl _) (by omega)) hg⟩⟩
theorem Ev_goes {σ ρ : Type} (l : Nat → σ → Int → Option ρ) (n : Nat) (F : Nat → σ → ρ) (Inv : Nat → σ → Prop)
    (h0 : ∀ s, Inv n s → Ev (fun k => l k s (n : Int)) (F n s))
    (hs : ∀ (i : Nat) s, i < n → Inv i s → (Ev (fun k => l k s (i : Int)) (F i s)) ∨ ∃ s', Inv (i + 1) s' ∧ F (i + 1) s' = F i s ∧ ∀ k, l (k + 1) s (i : Int) = l k s' ((i + 1 : Nat) : Int)) :
    ∀ (d i : Nat) s, n - i = d → i ≤ n → Inv i s → Ev (fun k => l k s (i : Int)) (F i s) := by
  intro d
  induction d with
  | zero =>
    intro i s hd hi hinv
    obtain rfl : i = n := by omega
    exact h0 s hinv
  | succ d ih =>
    intro i s hd hi hinv
    rcases hs i s (by omega) hinv with h | ⟨s', h1, h2, h3⟩
    · exact h
    · exact h2 ▸ Ev.step h3 (ih (i + 1) s' (by omega) (by omega) h1)
theorem Ev_goes' {σ ρ : Type} (l : Nat → σ → Int → Option ρ) (n : Nat) (F : Nat → σ → ρ) (Inv : Nat → σ → Prop)
    (h0 : ∀ s, Inv n s → Ev (fun k => l k s (n : Int)) (F n s))
    (hs : ∀ (i : Nat) s, i < n → Inv i s → (Ev (fun k => l k s (i : Int)) (F i s)) ∨ ∃ s', Inv (i + 1) s' ∧ F (i + 1) s' = F i s ∧ ∀ r, Ev (fun k => l k s' ((i + 1 : Nat) : Int)) r → Ev (fun k => l k s (i : Int)) r) :
    ∀ (d i : Nat) s, n - i = d → i ≤ n → Inv i s → Ev (fun k => l k s (i : Int)) (F i s) := by
  intro d
  induction d with
  | zero =>
    intro i s hd hi hinv
    obtain rfl : i = n := by omega
    exact h0 s hinv
  | succ d ih =>
    intro i s hd hi hinv
    rcases hs i s (by omega) hinv with h | ⟨s', h1, h2, h3⟩
    · exact h
    · exact h2 ▸ h3 _ (ih (i + 1) s' (by omega) (by omega) h1)
theorem drop_getD {α : Type} (z : α) (l : List α) (i : Nat) (h : i < l.length) : l.drop i = l.getD i z :: l.drop (i + 1) := by
  rw [List.drop_eq_getElem_cons h, List.getD_eq_getElem?_getD, List.getElem?_eq_getElem h]
  rfl
theorem getD_set {α : Type} (l : List α) (i j : Nat) (x z : α) : (l.set i x).getD j z = if i = j ∧ j < l.length then x else l.getD j z := by
  rw [List.getD_eq_getElem?_getD, List.getElem?_set, List.getD_eq_getElem?_getD]
  by_cases h : i = j
  · subst h
    by_cases h2 : i < l.length
    · simp [h2]
    · simp [h2]
  · simp [h]
theorem ext_getD {α : Type} (z : α) {a b : List α} (hl : a.length = b.length) (h : ∀ i, i < a.length → a.getD i z = b.getD i z) : a = b := by
  apply List.ext_getElem hl
  intro i h1 h2
  have := h i h1
  rw [List.getD_eq_getElem?_getD, List.getD_eq_getElem?_getD, List.getElem?_eq_getElem h1, List.getElem?_eq_getElem h2] at this
  simpa using this
end Go.Proofs.Ytomanpmffjkkgaa.EV
namespace Go.Proofs.Ytomanpmffjkkgaa.I1
open Go Go.RowKit Go.Proofs.Ytomanpmffjkkgaa.P Go.Proofs.YtomanpmffjkkgaaW.PrintWords Go.Proofs.YtomanpmffjkkgaaW.PrintLast
theorem in_i (a lo hi : Int) : impl_in.f a lo hi = some (decide (lo ≤ a ∧ a ≤ hi)) := by
  unfold impl_in.f
  by_cases h : a ≥ lo
  · rw [if_pos h]
    congr 1
    rw [Bool.eq_iff_iff, decide_eq_true_iff, decide_eq_true_iff]
    omega
  · rw [if_neg h]
    congr 1
    symm
    rw [decide_eq_false_iff_not]
    omega
theorem in_s (a lo hi : Int) : spec_l1In.f a lo hi = some (decide (lo ≤ a ∧ a ≤ hi)) := by
  unfold spec_l1In.f
  by_cases h : a ≥ lo
  · rw [if_pos h]
    congr 1
    rw [Bool.eq_iff_iff, decide_eq_true_iff, decide_eq_true_iff]
    omega
  · rw [if_neg h]
    congr 1
    symm
    rw [decide_eq_false_iff_not]
    omega
end Go.Proofs.Ytomanpmffjkkgaa.I1
namespace Go.Proofs.Ytomanpmffjkkgaa.N1
open Go Go.RowKit Go.Proofs.Ytomanpmffjkkgaa.P Go.Proofs.YtomanpmffjkkgaaW.PrintWords Go.Proofs.YtomanpmffjkkgaaW.PrintLast Go.Proofs.Ytomanpmffjkkgaa.EV Go.Proofs.Ytomanpmffjkkgaa.I1
def No (a : Int) : Prop := 1 ≤ a ∧ a ≤ 1000
def Amt (a : Int) : Prop := -1000000000000000 ≤ a ∧ a ≤ 1000000000000000
instance (a : Int) : Decidable (No a) := by unfold No; exact inferInstance
instance (a : Int) : Decidable (Amt a) := by unfold Amt; exact inferInstance
theorem no_s (a : Int) : spec_l3No.f a = some (decide (No a)) := by unfold spec_l3No.f; rw [in_s]; rfl
theorem amt_s (a : Int) : spec_AmountOk.f a = some (decide (Amt a)) := by unfold spec_AmountOk.f; rw [in_s]; rfl
end Go.Proofs.Ytomanpmffjkkgaa.N1
namespace Go.Proofs.Ytomanpmffjkkgaa.E1
open Go Go.RowKit Go.Proofs.Ytomanpmffjkkgaa.P Go.Proofs.YtomanpmffjkkgaaW.PrintWords Go.Proofs.YtomanpmffjkkgaaW.PrintLast Go.Proofs.Ytomanpmffjkkgaa.EV Go.Proofs.Ytomanpmffjkkgaa.I1 Go.Proofs.Ytomanpmffjkkgaa.N1
abbrev SL := S37
theorem rdL (l : List SL) (i : Nat) : rd_T37 l (i : Int) = l.getD i z37 := by unfold rd_T37; rw [Int.toNat_natCast]
def Form (x : SL) : Prop := No x.f0 ∧ No x.f1 ∧ (1 ≤ x.f2 ∧ x.f2 ≤ 1000000000) ∧ (1 ≤ x.f3 ∧ x.f3 ≤ 1000000000000000) ∧ 0 ≤ x.f4 ∧ x.f4 ≤ 1000000000000000
instance (x : SL) : Decidable (Form x) := by unfold Form No; exact inferInstance
def Lt (x y : SL) : Prop := x.f0 < y.f0 ∨ (x.f0 = y.f0 ∧ (x.f1 < y.f1 ∨ (x.f1 = y.f1 ∧ x.f2 < y.f2)))
instance (x y : SL) : Decidable (Lt x y) := by unfold Lt; exact inferInstance
theorem Lt.trans {x y z : SL} (h : Lt x y) (g : Lt y z) : Lt x z := by
  unfold Lt at *
  omega
def qty (a b : Int) : List SL → Int
  | [] => 0
  | x :: xs => (if x.f0 = a ∧ x.f1 = b then x.f3 else 0) + qty a b xs
def cst (a b : Int) : List SL → Int
  | [] => 0
  | x :: xs => (if x.f0 = a ∧ x.f1 = b then x.f4 else 0) + cst a b xs
def Chn : Option SL → List SL → Prop
  | _, [] => True
  | none, x :: xs => Chn (some x) xs
  | some y, x :: xs => Lt y x ∧ Chn (some x) xs
def Right (l : List SL) : Prop := l.length ≤ 120 ∧ (∀ x ∈ l, Form x) ∧ Chn none l ∧ ∀ a b, Amt (qty a b l) ∧ Amt (cst a b l)
theorem Chn.tail {y x : SL} {l : List SL} (h : Lt y x) (g : Chn (some x) l) : Chn (some y) l := by
  cases l with
  | nil => trivial
  | cons z zs => exact ⟨h.trans g.1, g.2⟩
theorem Chn.all {y : SL} : ∀ {l : List SL}, Chn (some y) l → ∀ x ∈ l, Lt y x
  | [], _, x, hx => by cases hx
  | z :: zs, h, x, hx => by
    rcases List.mem_cons.1 hx with rfl | hx
    · exact h.1
    · exact Chn.all (Chn.tail h.1 h.2) x hx
theorem qty_none {a b : Int} : ∀ {l : List SL}, (∀ x ∈ l, ¬(x.f0 = a ∧ x.f1 = b)) → qty a b l = 0 ∧ cst a b l = 0
  | [], _ => ⟨rfl, rfl⟩
  | x :: xs, h => by
    have ih := qty_none (l := xs) fun y hy => h y (List.mem_cons_of_mem _ hy)
    have hx := h x (List.mem_cons_self ..)
    simp only [qty, cst]
    rw [if_neg hx, if_neg hx, ih.1, ih.2]
    exact ⟨rfl, rfl⟩
theorem qty_pos {a b : Int} : ∀ {l : List SL}, (∀ x ∈ l, Form x) → 0 ≤ qty a b l ∧ 0 ≤ cst a b l ∧ qty a b l ≤ l.length * 1000000000000000 ∧ cst a b l ≤ l.length * 1000000000000000
  | [], _ => ⟨Int.le_refl _, Int.le_refl _, by simp [qty], by simp [cst]⟩
  | x :: xs, h => by
    have ih := qty_pos (a := a) (b := b) (l := xs) fun y hy => h y (List.mem_cons_of_mem _ hy)
    have hx := h x (List.mem_cons_self ..)
    unfold Form at hx
    simp only [qty, cst, List.length_cons]
    split <;> omega
theorem cmp_neg (x y : SL) : 0 ≤ impl_LotsOk.cmp x y ↔ ¬Lt x y := by
  unfold impl_LotsOk.cmp Lt
  by_cases h0 : x.f0 < y.f0
  · rw [if_pos h0]; omega
  · rw [if_neg h0]
    by_cases h1 : y.f0 < x.f0
    · rw [if_pos h1]; omega
    · rw [if_neg h1]
      by_cases h2 : x.f1 < y.f1
      · rw [if_pos h2]; omega
      · rw [if_neg h2]
        by_cases h3 : y.f1 < x.f1
        · rw [if_pos h3]; omega
        · rw [if_neg h3]
          by_cases h4 : x.f2 < y.f2
          · rw [if_pos h4]; omega
          · rw [if_neg h4]
            by_cases h5 : y.f2 < x.f2
            · rw [if_pos h5]; omega
            · rw [if_neg h5]; omega
theorem form_iff (x : SL) : impl_LotsOk.form x = true ↔ Form x := by
  unfold impl_LotsOk.form Form No
  rw [decide_eq_true_iff]
def prev (l : List SL) (i : Nat) : Option SL := if 0 < i then some (l.getD (i - 1) z37) else none
theorem chk_go (l : List SL) : ∀ (n i : Nat), l.length - i = n → i ≤ l.length → (impl_LotsOk.chk l n i = true ↔ (∀ x ∈ l.drop i, Form x) ∧ Chn (prev l i) (l.drop i))
  | 0, i, hn, hi => by
    obtain rfl : i = l.length := by omega
    rw [List.drop_length]
    unfold impl_LotsOk.chk
    exact ⟨fun _ => ⟨fun x hx => (by cases hx), trivial⟩, fun _ => rfl⟩
  | n + 1, i, hn, hi => by
    have h1 : i < l.length := by omega
    have ih := chk_go l n (i + 1) (by omega) (by omega)
    have ep : prev l (i + 1) = some (l.getD i z37) := by unfold prev; rw [if_pos (by omega), Nat.add_sub_cancel]
    rw [ep] at ih
    rw [drop_getD z37 l i h1]
    unfold impl_LotsOk.chk
    by_cases h0 : 0 < i
    · have e0 : prev l i = some (l.getD (i - 1) z37) := by unfold prev; rw [if_pos h0]
      rw [e0]
      constructor
      · intro h
        split at h
        · rename_i hg
          have h2 := ih.1 h
          refine ⟨fun x hx => ?_, Classical.byContradiction fun hh => hg.2 ⟨h0, (cmp_neg _ _).2 fun hl => hh ⟨hl, h2.2⟩⟩⟩
          rcases List.mem_cons.1 hx with rfl | hx
          · exact (form_iff _).1 hg.1
          · exact h2.1 x hx
        · cases h
      · rintro ⟨hf, hl, hc⟩
        rw [if_pos ⟨(form_iff _).2 (hf _ (List.mem_cons_self ..)), fun hh => (cmp_neg _ _).1 hh.2 hl⟩]
        exact ih.2 ⟨fun x hx => hf x (List.mem_cons_of_mem _ hx), hc⟩
    · have e0 : prev l i = none := by unfold prev; rw [if_neg h0]
      rw [e0]
      constructor
      · intro h
        split at h
        · rename_i hg
          have h2 := ih.1 h
          refine ⟨fun x hx => ?_, h2.2⟩
          rcases List.mem_cons.1 hx with rfl | hx
          · exact (form_iff _).1 hg.1
          · exact h2.1 x hx
        · cases h
      · rintro ⟨hf, hc⟩
        rw [if_pos ⟨(form_iff _).2 (hf _ (List.mem_cons_self ..)), fun hh => h0 hh.1⟩]
        exact ih.2 ⟨fun x hx => hf x (List.mem_cons_of_mem _ hx), hc⟩
theorem sum_of (a b : Int) : ∀ (l : List SL) (q c : Int), (∀ x ∈ l, Form x) → 0 ≤ q → 0 ≤ c → q + l.length * 1000000000000000 ≤ 9000000000000000000 → c + l.length * 1000000000000000 ≤ 9000000000000000000 →
    impl_LotsOk.sum3 (impl_LotsOk.of l a b) q = q + qty a b l ∧ impl_LotsOk.sum4 (impl_LotsOk.of l a b) c = c + cst a b l
  | [], q, c, _, _, _, _, _ => by simp [impl_LotsOk.of, impl_LotsOk.sum3, impl_LotsOk.sum4, qty, cst]
  | x :: xs, q, c, hf, h0, h1, h2, h3 => by
    have hx := hf x (List.mem_cons_self ..)
    have hxs : ∀ y ∈ xs, Form y := fun y hy => hf y (List.mem_cons_of_mem _ hy)
    unfold Form at hx
    simp only [List.length_cons] at h2 h3
    by_cases hk : x.f0 = a ∧ x.f1 = b
    · have e : impl_LotsOk.of (x :: xs) a b = x :: impl_LotsOk.of xs a b := by
        unfold impl_LotsOk.of
        rw [List.filter_cons_of_pos (by simpa using hk)]
      have ih := sum_of a b xs (q + x.f3) (c + x.f4) hxs (by omega) (by omega) (by omega) (by omega)
      rw [e]
      simp only [impl_LotsOk.sum3, impl_LotsOk.sum4, List.foldl_cons, qty, cst] at ih ⊢
      rw [if_pos hk, if_pos hk, w64_in (q + x.f3) (by omega) (by omega), w64_in (c + x.f4) (by omega) (by omega), ih.1, ih.2]
      omega
    · have e : impl_LotsOk.of (x :: xs) a b = impl_LotsOk.of xs a b := by
        unfold impl_LotsOk.of
        rw [List.filter_cons_of_neg (by simpa using hk)]
      have ih := sum_of a b xs q c hxs (by omega) (by omega) (by omega) (by omega)
      rw [e]
      simp only [qty, cst]
      rw [if_neg hk, if_neg hk, ih.1, ih.2]
      omega
theorem over_iff (l : List SL) (hl : l.length ≤ 120) (hf : ∀ x ∈ l, Form x) (x : SL) : impl_LotsOk.over l x = false ↔ Amt (qty x.f0 x.f1 l) ∧ Amt (cst x.f0 x.f1 l) := by
  have h := sum_of x.f0 x.f1 l 0 0 hf (Int.le_refl _) (Int.le_refl _) (by omega) (by omega)
  unfold impl_LotsOk.over
  rw [h.1, h.2, Int.zero_add, Int.zero_add]
  unfold impl_LotsOk.amt Amt
  by_cases h1 : -1000000000000000 ≤ qty x.f0 x.f1 l ∧ qty x.f0 x.f1 l ≤ 1000000000000000
  · by_cases h2 : -1000000000000000 ≤ cst x.f0 x.f1 l ∧ cst x.f0 x.f1 l ≤ 1000000000000000
    · simp [h1, h2]
    · rw [if_pos (decide_eq_true h1), decide_eq_false h2]
      exact ⟨fun h => Bool.noConfusion h, fun h => absurd h.2 h2⟩
  · rw [if_neg (by rw [decide_eq_false h1]; decide)]
    exact ⟨fun h => Bool.noConfusion h, fun h => absurd h.1 h1⟩
theorem ok_iff (l : List SL) : impl_LotsOk.ok l = true ↔ Right l := by
  unfold impl_LotsOk.ok
  have hc := chk_go l l.length 0 (by omega) (by omega)
  rw [List.drop_zero] at hc
  by_cases h1 : impl_LotsOk.chk l l.length 0 = true
  · rw [if_pos h1]
    have hg := hc.1 h1
    by_cases h2 : (l.length : Int) > 120
    · rw [if_pos h2]
      exact ⟨fun h => Bool.noConfusion h, fun h => absurd h.1 (by omega)⟩
    · rw [if_neg h2]
      have h3 : l.length ≤ 120 := by omega
      constructor
      · intro h
        have h4 : l.any (impl_LotsOk.over l) = false := by simpa using h
        refine ⟨h3, hg.1, hg.2, fun a b => ?_⟩
        by_cases hx : ∃ x ∈ l, x.f0 = a ∧ x.f1 = b
        · obtain ⟨x, hx, rfl, rfl⟩ := hx
          have h5 := List.any_eq_false.1 h4 x hx
          exact (over_iff l h3 hg.1 x).1 (by simpa using h5)
        · have h6 := qty_none (a := a) (b := b) (l := l) fun x hm hk => hx ⟨x, hm, hk⟩
          rw [h6.1, h6.2]
          unfold Amt
          omega
      · intro h
        have h4 : l.any (impl_LotsOk.over l) = false := by
          rw [List.any_eq_false]
          intro x _
          rw [(over_iff l h3 hg.1 x).2 (h.2.2.2 x.f0 x.f1)]
          decide
        rw [h4]
        rfl
  · rw [if_neg h1]
    exact ⟨fun h => Bool.noConfusion h, fun h => absurd (hc.2 ⟨h.2.1, h.2.2.1⟩) h1⟩
theorem some_s (a lo : Int) : spec_l1Some.f a lo = some (decide (lo ≤ a ∧ a ≤ 1000000000000000)) := by
  unfold spec_l1Some.f
  first | (rw [in_s]; rfl) | (rw [in_s])
theorem right_s (x : SL) : spec_l5Right.f x.f0 x.f1 x.f2 x.f3 x.f4 = some (decide (Form x)) := by
  unfold spec_l5Right.f
  simp only [no_s, in_s, some_s, Option.bind_some, decide_eq_true_iff]
  by_cases h0 : No x.f0
  · by_cases h1 : No x.f1
    · by_cases h2 : 1 ≤ x.f2 ∧ x.f2 ≤ 1000000000
      · by_cases h3 : 1 ≤ x.f3 ∧ x.f3 ≤ 1000000000000000
        · by_cases h4 : 0 ≤ x.f4 ∧ x.f4 ≤ 1000000000000000
          · rw [if_pos h0, if_pos h1, if_pos h2, if_pos h3, decide_eq_true h4, decide_eq_true (show Form x from ⟨h0, h1, h2, h3, h4⟩)]
          · rw [if_pos h0, if_pos h1, if_pos h2, if_pos h3, decide_eq_false h4, decide_eq_false (fun g : Form x => h4 g.2.2.2.2)]
        · rw [if_pos h0, if_pos h1, if_pos h2, if_neg h3, decide_eq_false (fun g : Form x => h3 g.2.2.2.1)]
      · rw [if_pos h0, if_pos h1, if_neg h2, decide_eq_false (fun g : Form x => h2 g.2.2.1)]
    · rw [if_pos h0, if_neg h1, decide_eq_false (fun g : Form x => h1 g.2.1)]
  · rw [if_neg h0, decide_eq_false (fun g : Form x => h0 g.1)]
theorem before_s (x y : SL) : spec_l5Before.f x.f0 x.f1 x.f2 x.f3 x.f4 y.f0 y.f1 y.f2 y.f3 y.f4 = some (decide (Lt x y)) := by
  unfold spec_l5Before.f spec_l4Before.f Lt
  by_cases h0 : x.f0 < y.f0
  · simp [h0]
  · by_cases h1 : x.f0 = y.f0
    · by_cases h2 : x.f1 < y.f1
      · simp [h1, h2]
      · by_cases h3 : x.f1 = y.f1 <;> simp [h1, h2, h3]
    · simp [h0, h1]
def base (p : Option SL) (q a b : Int) : Int := match p with
  | none => 0
  | some y => if y.f0 = a ∧ y.f1 = b then q else 0
def Aft (p : Option SL) (x : SL) : Prop := match p with
  | none => True
  | some y => Lt y x
instance (p : Option SL) (x : SL) : Decidable (Aft p x) := by unfold Aft; split <;> exact inferInstance
def go : Option SL → Int → Int → List SL → Bool
  | _, _, _, [] => true
  | p, q, c, x :: xs => if Form x ∧ Aft p x then (if Amt (base p q x.f0 x.f1 + x.f3) ∧ Amt (base p c x.f0 x.f1 + x.f4) then go (some x) (base p q x.f0 x.f1 + x.f3) (base p c x.f0 x.f1 + x.f4) xs else false) else false
theorem chn_cons (p : Option SL) (x : SL) (xs : List SL) : Chn p (x :: xs) ↔ Aft p x ∧ Chn (some x) xs := by
  cases p with
  | none => exact ⟨fun h => ⟨trivial, h⟩, fun h => h.2⟩
  | some y => exact Iff.rfl
theorem base_pos (p : Option SL) (q a b : Int) (h0 : 0 ≤ q) (h1 : q ≤ 1000000000000000) : 0 ≤ base p q a b ∧ base p q a b ≤ 1000000000000000 := by
  cases p with
  | none => simp only [base]; omega
  | some y => simp only [base]; split <;> omega
theorem base_own (x : SL) (q : Int) : base (some x) q x.f0 x.f1 = q := by simp only [base]; rw [if_pos ⟨trivial, trivial⟩]
theorem base_other {x : SL} {q a b : Int} (h : ¬(x.f0 = a ∧ x.f1 = b)) : base (some x) q a b = 0 := by simp only [base]; rw [if_neg h]
theorem gone {y x : SL} {xs : List SL} {a b : Int} (hl : Lt y x) (hc : Chn (some x) xs) (hy : y.f0 = a ∧ y.f1 = b) (hx : ¬(x.f0 = a ∧ x.f1 = b)) : qty a b xs = 0 ∧ cst a b xs = 0 :=
  qty_none fun z hz hk => by
    have h1 := Chn.all hc z hz
    unfold Lt at h1 hl
    omega
theorem go_iff : ∀ (l : List SL) (p : Option SL) (q c : Int), 0 ≤ q → q ≤ 1000000000000000 → 0 ≤ c → c ≤ 1000000000000000 →
    (go p q c l = true ↔ (∀ x ∈ l, Form x) ∧ Chn p l ∧ ∀ a b, Amt (base p q a b + qty a b l) ∧ Amt (base p c a b + cst a b l))
  | [], p, q, c, q0, q1, c0, c1 => by
    refine ⟨fun _ => ⟨fun x hx => (by cases hx), by cases p <;> trivial, fun a b => ?_⟩, fun _ => by cases p <;> rfl⟩
    have h1 := base_pos p q a b q0 q1
    have h2 := base_pos p c a b c0 c1
    simp only [qty, cst]
    unfold Amt
    omega
  | x :: xs, p, q, c, q0, q1, c0, c1 => by
    have hb1 := base_pos p q x.f0 x.f1 q0 q1
    have hb2 := base_pos p c x.f0 x.f1 c0 c1
    rw [go, chn_cons]
    by_cases h1 : Form x ∧ Aft p x
    · rw [if_pos h1]
      have hfx := h1.1
      unfold Form at hfx
      by_cases h2 : Amt (base p q x.f0 x.f1 + x.f3) ∧ Amt (base p c x.f0 x.f1 + x.f4)
      · rw [if_pos h2]
        have ih := go_iff xs (some x) (base p q x.f0 x.f1 + x.f3) (base p c x.f0 x.f1 + x.f4) (by omega) h2.1.2 (by omega) h2.2.2
        have key : Chn (some x) xs → ∀ a b, ((Amt (base (some x) (base p q x.f0 x.f1 + x.f3) a b + qty a b xs) ∧ Amt (base (some x) (base p c x.f0 x.f1 + x.f4) a b + cst a b xs)) ↔ (Amt (base p q a b + qty a b (x :: xs)) ∧ Amt (base p c a b + cst a b (x :: xs)))) := by
          intro hc a b
          by_cases hk : x.f0 = a ∧ x.f1 = b
          · obtain ⟨rfl, rfl⟩ := hk
            rw [base_own, base_own]
            simp only [qty, cst]
            rw [if_pos ⟨trivial, trivial⟩, if_pos ⟨trivial, trivial⟩, Int.add_assoc, Int.add_assoc]
          · rw [base_other hk, base_other hk]
            simp only [qty, cst]
            rw [if_neg hk, if_neg hk]
            simp only [Int.zero_add]
            cases p with
            | none => simp only [base, Int.zero_add]
            | some y =>
              by_cases hy : y.f0 = a ∧ y.f1 = b
              · have hg := gone h1.2 hc hy hk
                simp only [base]
                rw [if_pos hy, if_pos hy, hg.1, hg.2]
                unfold Amt
                omega
              · rw [base_other hy, base_other hy]
                simp only [Int.zero_add]
        constructor
        · intro h
          obtain ⟨f1, f2, f3⟩ := ih.1 h
          refine ⟨fun z hz => ?_, ⟨h1.2, f2⟩, fun a b => (key f2 a b).1 (f3 a b)⟩
          rcases List.mem_cons.1 hz with rfl | hz
          · exact h1.1
          · exact f1 z hz
        · rintro ⟨f1, ⟨_, f2⟩, f3⟩
          exact ih.2 ⟨fun z hz => f1 z (List.mem_cons_of_mem _ hz), f2, fun a b => (key f2 a b).2 (f3 a b)⟩
      · rw [if_neg h2]
        refine ⟨fun h => Bool.noConfusion h, fun h => absurd ?_ h2⟩
        obtain ⟨f1, ⟨_, f2⟩, f3⟩ := h
        have h3 := f3 x.f0 x.f1
        have h4 := qty_pos (a := x.f0) (b := x.f1) (l := xs) fun z hz => f1 z (List.mem_cons_of_mem _ hz)
        simp only [qty, cst] at h3
        rw [if_pos ⟨trivial, trivial⟩, if_pos ⟨trivial, trivial⟩] at h3
        unfold Amt at h3 ⊢
        omega
    · rw [if_neg h1]
      exact ⟨fun h => Bool.noConfusion h, fun h => absurd ⟨h.1 x (List.mem_cons_self ..), h.2.1.1⟩ h1⟩
theorem lotsOk_s (l : List SL) : Ev (fun k => spec_LotsOk.f k l) (impl_LotsOk.ok l) := by
  unfold spec_LotsOk.f
  have hok : impl_LotsOk.ok l = (if (l.length : Int) > 120 then false else go none 0 0 l) := by
    rw [Bool.eq_iff_iff, ok_iff]
    by_cases h : (l.length : Int) > 120
    · rw [if_pos h]
      exact ⟨fun g => absurd g.1 (by omega), fun g => Bool.noConfusion g⟩
    · rw [if_neg h, go_iff l none 0 0 (by omega) (by omega) (by omega) (by omega)]
      unfold Right
      simp only [base, Int.zero_add]
      exact ⟨fun g => g.2, fun g => ⟨by omega, g⟩⟩
  rw [hok]
  by_cases hn : (l.length : Int) > 120
  · rw [if_pos hn]
    exact Ev_all_k fun k => by rw [if_pos hn]
  · rw [if_neg hn]
    have h := Ev_goes' (fun k (s : Int × Int) i => spec_LotsOk.l0 k l s.1 s.2 i) l.length (fun i s => go (prev l i) s.1 s.2 (l.drop i)) (fun i s => 0 ≤ s.1 ∧ s.1 ≤ 1000000000000000 ∧ 0 ≤ s.2 ∧ s.2 ≤ 1000000000000000)
      (fun s hs => Ev_one fun k => by
        simp only [spec_LotsOk.l0]
        rw [if_neg (by omega), List.drop_length]
        cases prev l l.length <;> rfl)
      (fun i s hi hs => by
        obtain ⟨q, c⟩ := s
        obtain ⟨q0, q1, c0, c1⟩ := hs
        simp only at q0 q1 c0 c1
        show (Ev (fun k => spec_LotsOk.l0 k l q c (i : Int)) (go (prev l i) q c (l.drop i))) ∨ _
        have ep : prev l (i + 1) = some (l.getD i z37) := by unfold prev; rw [if_pos (by omega), Nat.add_sub_cancel]
        rw [drop_getD z37 l i hi]
        show (Ev (fun k => spec_LotsOk.l0 k l q c (i : Int)) (go (prev l i) q c (l.getD i z37 :: l.drop (i + 1)))) ∨ ∃ s' : Int × Int, _ ∧ go (prev l (i + 1)) s'.1 s'.2 (l.drop (i + 1)) = go (prev l i) q c (l.getD i z37 :: l.drop (i + 1)) ∧ _
        rw [ep]
        generalize hx : l.getD i z37 = x
        rw [go]
        have hb1 := base_pos (prev l i) q x.f0 x.f1 q0 q1
        have hb2 := base_pos (prev l i) c x.f0 x.f1 c0 c1
        -- the round's last part
        have e3 : Form x → ∀ (a b : Int), 0 ≤ a → a ≤ 1000000000000000 → 0 ≤ b → b ≤ 1000000000000000 → ∀ k, spec_LotsOk.j3 (k + 1) l a b (i : Int) x.f0 x.f1 x.f2 x.f3 x.f4 = if Amt (a + x.f3) ∧ Amt (b + x.f4) then spec_LotsOk.l0 k l (a + x.f3) (b + x.f4) ((i + 1 : Nat) : Int) else some false := by
          intro hf a b a0 a1 b0 b1 k
          unfold Form at hf
          simp only [spec_LotsOk.j3]
          rw [w64_in (a + x.f3) (by omega) (by omega), w64_in (b + x.f4) (by omega) (by omega), w_succ hi (by omega), amt_s, amt_s, Option.bind_some, Option.bind_some]
          by_cases h1 : Amt (a + x.f3)
          · by_cases h2 : Amt (b + x.f4)
            · rw [if_pos (decide_eq_true h1), if_pos (decide_eq_true h2), if_pos ⟨h1, h2⟩]
            · rw [if_pos (decide_eq_true h1), if_neg (by rw [decide_eq_false h2]; decide), if_neg fun g => h2 g.2]
          · rw [if_neg (by rw [decide_eq_false h1]; decide), if_neg fun g => h1 g.1]
        have e2 : ∀ k (t : Bool), spec_LotsOk.j2 (k + 1) l q c (i : Int) t x.f0 x.f1 x.f2 x.f3 x.f4 = if t = true then spec_LotsOk.j3 k l 0 0 (i : Int) x.f0 x.f1 x.f2 x.f3 x.f4 else spec_LotsOk.j3 k l q c (i : Int) x.f0 x.f1 x.f2 x.f3 x.f4 := fun k t => by simp only [spec_LotsOk.j2]
        -- what the round comes to, once the pair's own amounts are known
        have fin : ∀ a b, Form x → a = base (prev l i) q x.f0 x.f1 → b = base (prev l i) c x.f0 x.f1 → Aft (prev l i) x → (∀ r, Ev (fun k => spec_LotsOk.j3 k l a b (i : Int) x.f0 x.f1 x.f2 x.f3 x.f4) r → Ev (fun k => spec_LotsOk.l0 k l q c (i : Int)) r) →
            (Ev (fun k => spec_LotsOk.l0 k l q c (i : Int)) (if Form x ∧ Aft (prev l i) x then (if Amt (base (prev l i) q x.f0 x.f1 + x.f3) ∧ Amt (base (prev l i) c x.f0 x.f1 + x.f4) then go (some x) (base (prev l i) q x.f0 x.f1 + x.f3) (base (prev l i) c x.f0 x.f1 + x.f4) (l.drop (i + 1)) else false) else false)) ∨
            ∃ s' : Int × Int, (0 ≤ s'.1 ∧ s'.1 ≤ 1000000000000000 ∧ 0 ≤ s'.2 ∧ s'.2 ≤ 1000000000000000) ∧ go (some x) s'.1 s'.2 (l.drop (i + 1)) = (if Form x ∧ Aft (prev l i) x then (if Amt (base (prev l i) q x.f0 x.f1 + x.f3) ∧ Amt (base (prev l i) c x.f0 x.f1 + x.f4) then go (some x) (base (prev l i) q x.f0 x.f1 + x.f3) (base (prev l i) c x.f0 x.f1 + x.f4) (l.drop (i + 1)) else false) else false) ∧
              ∀ r, Ev (fun k => spec_LotsOk.l0 k l s'.1 s'.2 ((i + 1 : Nat) : Int)) r → Ev (fun k => spec_LotsOk.l0 k l q c (i : Int)) r := by
          rintro a b hf rfl rfl ha step
          rw [if_pos ⟨hf, ha⟩]
          have hf' := hf
          unfold Form at hf'
          by_cases hm : Amt (base (prev l i) q x.f0 x.f1 + x.f3) ∧ Amt (base (prev l i) c x.f0 x.f1 + x.f4)
          · rw [if_pos hm]
            refine .inr ⟨(base (prev l i) q x.f0 x.f1 + x.f3, base (prev l i) c x.f0 x.f1 + x.f4), ⟨by show 0 ≤ _ + x.f3; omega, hm.1.2, by show 0 ≤ _ + x.f4; omega, hm.2.2⟩, rfl, fun r hr => ?_⟩
            refine step r (Ev.step (fun k => ?_) hr)
            show spec_LotsOk.j3 (k + 1) l _ _ (i : Int) x.f0 x.f1 x.f2 x.f3 x.f4 = _
            rw [e3 hf _ _ hb1.1 hb1.2 hb2.1 hb2.2 k, if_pos hm]
          · rw [if_neg hm]
            refine .inl (step false (Ev_one fun k => ?_))
            show spec_LotsOk.j3 (k + 1) l _ _ (i : Int) x.f0 x.f1 x.f2 x.f3 x.f4 = _
            rw [e3 hf _ _ hb1.1 hb1.2 hb2.1 hb2.2 k, if_neg hm]
        by_cases hf : Form x
        · by_cases h0 : 0 < i
          · have e0 : prev l i = some (l.getD (i - 1) z37) := by unfold prev; rw [if_pos h0]
            generalize hy : l.getD (i - 1) z37 = y at e0
            have eA : ∀ k, spec_LotsOk.l0 (k + 1) l q c (i : Int) = spec_LotsOk.j1 k l q c (i : Int) (!decide (Lt y x)) x.f0 x.f1 x.f2 x.f3 x.f4 := by
              intro k
              simp only [spec_LotsOk.l0]
              rw [if_pos (by omega), if_pos (by omega), w_pred hi h0 (by omega)]
              simp only [rdL, hx, hy, right_s, before_s, Option.bind_some, decide_eq_true_iff]
              rw [if_pos hf, if_pos (by omega), if_pos (by omega), if_pos (by omega)]
            by_cases hl : Lt y x
            · have ha : Aft (prev l i) x := by rw [e0]; exact hl
              have eB : ∀ k, spec_LotsOk.j1 (k + 1) l q c (i : Int) false x.f0 x.f1 x.f2 x.f3 x.f4 = spec_LotsOk.j2 k l q c (i : Int) (!decide (y.f0 = x.f0 ∧ y.f1 = x.f1)) x.f0 x.f1 x.f2 x.f3 x.f4 := by
                intro k
                simp only [spec_LotsOk.j1]
                rw [if_neg (by decide), if_neg (by omega), w_pred hi h0 (by omega), if_pos (by omega), if_pos (by omega)]
                simp only [rdL, hy]
                by_cases k1 : x.f0 = y.f0
                · rw [if_pos k1]
                  by_cases k2 : x.f1 = y.f1
                  · rw [decide_eq_true (show y.f0 = x.f0 ∧ y.f1 = x.f1 from ⟨k1.symm, k2.symm⟩), k2]
                    simp
                  · rw [decide_eq_false (show ¬(y.f0 = x.f0 ∧ y.f1 = x.f1) from fun g => k2 g.2.symm), show (x.f1 != y.f1) = true by simpa using k2]
                    rfl
                · rw [if_neg k1, decide_eq_false (show ¬(y.f0 = x.f0 ∧ y.f1 = x.f1) from fun g => k1 g.1.symm)]
                  rfl
              by_cases hk : y.f0 = x.f0 ∧ y.f1 = x.f1
              · refine fin q c hf (by rw [e0]; simp only [base]; rw [if_pos hk]) (by rw [e0]; simp only [base]; rw [if_pos hk]) ha fun r hr => ?_
                refine Ev.step (fun k => by rw [eA k, decide_eq_true hl]) (Ev.step (fun k => by show spec_LotsOk.j1 (k + 1) l q c (i : Int) false x.f0 x.f1 x.f2 x.f3 x.f4 = _; rw [eB k, decide_eq_true hk]) (Ev.step (fun k => by show spec_LotsOk.j2 (k + 1) l q c (i : Int) false x.f0 x.f1 x.f2 x.f3 x.f4 = _; rw [e2 k, if_neg (by decide)]) hr))
              · refine fin 0 0 hf (by rw [e0]; simp only [base]; rw [if_neg hk]) (by rw [e0]; simp only [base]; rw [if_neg hk]) ha fun r hr => ?_
                refine Ev.step (fun k => by rw [eA k, decide_eq_true hl]) (Ev.step (fun k => by show spec_LotsOk.j1 (k + 1) l q c (i : Int) false x.f0 x.f1 x.f2 x.f3 x.f4 = _; rw [eB k, decide_eq_false hk]) (Ev.step (fun k => by show spec_LotsOk.j2 (k + 1) l q c (i : Int) true x.f0 x.f1 x.f2 x.f3 x.f4 = _; rw [e2 k, if_pos rfl]) hr))
            · have ha : ¬(Form x ∧ Aft (prev l i) x) := by rw [e0]; exact fun g => hl g.2
              rw [if_neg ha]
              refine .inl (Ev.step (fun k => by rw [eA k, decide_eq_false hl]) (Ev_one fun k => ?_))
              show spec_LotsOk.j1 (k + 1) l q c (i : Int) true x.f0 x.f1 x.f2 x.f3 x.f4 = _
              simp only [spec_LotsOk.j1]
              rw [if_pos trivial]
          · have e0 : prev l i = none := by unfold prev; rw [if_neg h0]
            have ha : Aft (prev l i) x := by rw [e0]; exact trivial
            have hz : (i : Int) = 0 := by omega
            refine fin 0 0 hf (by rw [e0]; rfl) (by rw [e0]; rfl) ha fun r hr => ?_
            refine Ev.step (f := fun k => spec_LotsOk.j1 k l q c (i : Int) false x.f0 x.f1 x.f2 x.f3 x.f4) (fun k => ?_) (Ev.step (f := fun k => spec_LotsOk.j2 k l q c (i : Int) true x.f0 x.f1 x.f2 x.f3 x.f4) (fun k => ?_) (Ev.step (fun k => by show spec_LotsOk.j2 (k + 1) l q c (i : Int) true x.f0 x.f1 x.f2 x.f3 x.f4 = _; rw [e2 k, if_pos rfl]) hr))
            · show spec_LotsOk.l0 (k + 1) l q c (i : Int) = _
              simp only [spec_LotsOk.l0]
              rw [if_pos (by omega), if_pos (by omega)]
              simp only [rdL, hx, right_s, Option.bind_some, decide_eq_true_iff]
              rw [if_pos hf, if_neg (by omega)]
            · show spec_LotsOk.j1 (k + 1) l q c (i : Int) false x.f0 x.f1 x.f2 x.f3 x.f4 = _
              simp only [spec_LotsOk.j1]
              rw [if_neg (by decide), if_pos hz]
        · rw [if_neg (fun g => hf g.1)]
          refine .inl (Ev.step (f := fun k => spec_LotsOk.j1 k l q c (i : Int) true x.f0 x.f1 x.f2 x.f3 x.f4) (fun k => ?_) (Ev_one fun k => ?_))
          · show spec_LotsOk.l0 (k + 1) l q c (i : Int) = _
            simp only [spec_LotsOk.l0]
            rw [if_pos (by omega), if_pos (by omega)]
            simp only [rdL, hx, right_s, Option.bind_some, decide_eq_true_iff]
            rw [if_neg hf]
          · show spec_LotsOk.j1 (k + 1) l q c (i : Int) true x.f0 x.f1 x.f2 x.f3 x.f4 = _
            simp only [spec_LotsOk.j1]
            rw [if_pos trivial]) l.length 0 (0, 0) (by omega) (by omega) ⟨by decide, by decide, by decide, by decide⟩
    refine Ev.congr (fun k => by rw [if_neg hn]; rfl) h
end Go.Proofs.Ytomanpmffjkkgaa.E1
namespace Go.Proofs.Ytomanpmffjkkgaa.E2
open Go Go.RowKit Go.Proofs.Ytomanpmffjkkgaa.P Go.Proofs.YtomanpmffjkkgaaW.PrintWords Go.Proofs.YtomanpmffjkkgaaW.PrintLast Go.Proofs.Ytomanpmffjkkgaa.EV Go.Proofs.Ytomanpmffjkkgaa.I1 Go.Proofs.Ytomanpmffjkkgaa.N1 Go.Proofs.Ytomanpmffjkkgaa.E1
def Own (a b : Int) (x : SL) : Bool := decide (x.f0 = a ∧ x.f1 = b)
def ofL (a b : Int) (l : List SL) : List SL := l.filter (Own a b)
def outL (a b : Int) (l : List SL) : List SL := l.filter fun x => !Own a b x
theorem of_len (a b : Int) (l : List SL) : (ofL a b l).length ≤ l.length := List.length_filter_le _ _
theorem out_len (a b : Int) (l : List SL) : (outL a b l).length ≤ l.length := List.length_filter_le _ _
theorem split_s (l : List SL) (a b : Int) (hl : l.length ≤ 1048577) : Ev (fun k => spec_l5Split.f k l a b) (ofL a b l, outL a b l) := by
  unfold spec_l5Split.f
  have h := Ev_goes (fun k (s : List SL × List SL) i => spec_l5Split.l0 k l a b s.1 s.2 i) l.length (fun i s => (s.1 ++ ofL a b (l.drop i), s.2 ++ outL a b (l.drop i))) (fun i s => s.1.length ≤ i ∧ s.2.length ≤ i)
    (fun s _ => Ev_one fun k => by
      simp only [spec_l5Split.l0]
      rw [if_neg (by omega), List.drop_length]
      simp [ofL, outL])
    (fun i s hi hs => by
      obtain ⟨p, q⟩ := s
      simp only at hs
      have e : l.drop i = l.getD i z37 :: l.drop (i + 1) := drop_getD z37 l i hi
      by_cases h1 : (l.getD i z37).f0 = a ∧ (l.getD i z37).f1 = b
      · refine .inr ⟨(p ++ [l.getD i z37], q), ⟨by show (p ++ [_]).length ≤ i + 1; rw [List.length_append, List.length_singleton]; omega, Nat.le_succ_of_le hs.2⟩, ?_, fun k => ?_⟩
        · have hO : Own a b (l.getD i z37) = true := decide_eq_true h1
          rw [e]
          simp only [ofL, outL]
          rw [List.filter_cons_of_pos hO, List.filter_cons_of_neg (by rw [hO]; decide), List.append_assoc]
          rfl
        · show spec_l5Split.l0 (k + 1) l a b p q (i : Int) = _
          simp only [spec_l5Split.l0]
          rw [if_pos (by omega), if_pos (by omega), w_succ hi (by omega)]
          simp only [rdL]
          rw [if_pos h1.1, if_pos h1.2, if_pos (by omega)]
      · have step : ∀ k, spec_l5Split.l0 (k + 1) l a b p q (i : Int) = spec_l5Split.l0 k l a b p (q ++ [l.getD i z37]) ((i + 1 : Nat) : Int) := fun k => by
          simp only [spec_l5Split.l0]
          rw [if_pos (by omega), if_pos (by omega), w_succ hi (by omega)]
          simp only [rdL]
          by_cases h2 : (l.getD i z37).f0 = a
          · rw [if_pos h2, if_neg fun h3 => h1 ⟨h2, h3⟩, if_pos (by omega)]
          · rw [if_neg h2, if_pos (by omega)]
        refine .inr ⟨(p, q ++ [l.getD i z37]), ⟨Nat.le_succ_of_le hs.1, by show (q ++ [_]).length ≤ i + 1; rw [List.length_append, List.length_singleton]; omega⟩, ?_, step⟩
        have hO : Own a b (l.getD i z37) = false := decide_eq_false h1
        rw [e]
        simp only [ofL, outL]
        rw [List.filter_cons_of_neg (by rw [hO]; decide), List.filter_cons_of_pos (by rw [hO]; decide), List.append_assoc]
        rfl) l.length 0 ([], []) (by omega) (by omega) ⟨Nat.le_refl _, Nat.le_refl _⟩
  exact h
theorem qty_s (l : List SL) (hl : l.length ≤ 1048577) : Ev (fun k => spec_l5Qty.f k l) (impl_LotsOk.sum3 l 0) := by
  unfold spec_l5Qty.f
  have h := Ev_goes (fun k (s : Int) i => spec_l5Qty.l0 k l s i) l.length (fun i s => impl_LotsOk.sum3 (l.drop i) s) (fun _ _ => True)
    (fun s _ => Ev_one fun k => by
      simp only [spec_l5Qty.l0]
      rw [if_neg (by omega), List.drop_length]
      rfl)
    (fun i s hi _ => .inr ⟨wrap64 (s + (l.getD i z37).f3), trivial, by rw [drop_getD z37 l i hi]; rfl, fun k => by
      show spec_l5Qty.l0 (k + 1) l s (i : Int) = _
      simp only [spec_l5Qty.l0]
      rw [if_pos (by omega), if_pos (by omega), w_succ hi (by omega), rdL]⟩) l.length 0 0 (by omega) (by omega) trivial
  exact h
theorem cost_s (l : List SL) (hl : l.length ≤ 1048577) : Ev (fun k => spec_l5Cost.f k l) (impl_LotsOk.sum4 l 0) := by
  unfold spec_l5Cost.f
  have h := Ev_goes (fun k (s : Int) i => spec_l5Cost.l0 k l s i) l.length (fun i s => impl_LotsOk.sum4 (l.drop i) s) (fun _ _ => True)
    (fun s _ => Ev_one fun k => by
      simp only [spec_l5Cost.l0]
      rw [if_neg (by omega), List.drop_length]
      rfl)
    (fun i s hi _ => .inr ⟨wrap64 (s + (l.getD i z37).f4), trivial, by rw [drop_getD z37 l i hi]; rfl, fun k => by
      show spec_l5Cost.l0 (k + 1) l s (i : Int) = _
      simp only [spec_l5Cost.l0]
      rw [if_pos (by omega), if_pos (by omega), w_succ hi (by omega), rdL]⟩) l.length 0 0 (by omega) (by omega) trivial
  exact h
theorem sums_i (l : List SL) (hl : l.length ≤ 1048577) : Ev (fun k => impl_sumLots.f k l) (impl_LotsOk.sum3 l 0, impl_LotsOk.sum4 l 0) := by
  unfold impl_sumLots.f
  have h := Ev_goes (fun k (s : Int × Int) i => impl_sumLots.l0 k s.1 s.2 l (l.length : Int) i) l.length (fun i s => (impl_LotsOk.sum3 (l.drop i) s.1, impl_LotsOk.sum4 (l.drop i) s.2)) (fun _ _ => True)
    (fun s _ => Ev_one fun k => by
      simp only [impl_sumLots.l0]
      rw [if_neg (by omega), List.drop_length]
      rfl)
    (fun i s hi _ => .inr ⟨(wrap64 (s.1 + (l.getD i z37).f3), wrap64 (s.2 + (l.getD i z37).f4)), trivial, by rw [drop_getD z37 l i hi]; rfl, fun k => by
      show impl_sumLots.l0 (k + 1) s.1 s.2 l (l.length : Int) (i : Int) = _
      simp only [impl_sumLots.l0]
      rw [if_pos (by omega), if_pos (by omega), if_pos (by omega), w_succ hi (by omega), rdL]⟩) l.length 0 (0, 0) (by omega) (by omega) trivial
  exact h
end Go.Proofs.Ytomanpmffjkkgaa.E2
namespace Go.Proofs.Ytomanpmffjkkgaa.E3
open Go Go.RowKit Go.Proofs.Ytomanpmffjkkgaa.P Go.Proofs.YtomanpmffjkkgaaW.PrintWords Go.Proofs.YtomanpmffjkkgaaW.PrintLast Go.Proofs.Ytomanpmffjkkgaa.EV Go.Proofs.Ytomanpmffjkkgaa.I1 Go.Proofs.Ytomanpmffjkkgaa.N1 Go.Proofs.Ytomanpmffjkkgaa.E1
def mergeL : List SL → List SL → List SL
  | [], ys => ys
  | x :: xs, [] => x :: xs
  | x :: xs, y :: ys => if Lt x y then x :: mergeL xs (y :: ys) else y :: mergeL (x :: xs) ys
termination_by xs ys => xs.length + ys.length
theorem merge_nil (xs : List SL) : mergeL xs [] = xs := by cases xs <;> simp [mergeL]
theorem nil_merge (ys : List SL) : mergeL [] ys = ys := by simp [mergeL]
theorem merge_len : ∀ (xs ys : List SL), (mergeL xs ys).length = xs.length + ys.length
  | [], ys => by simp [mergeL]
  | x :: xs, [] => by simp [mergeL]
  | x :: xs, y :: ys => by
    rw [mergeL]
    split
    · rw [List.length_cons, merge_len xs (y :: ys)]
      simp only [List.length_cons]
      omega
    · rw [List.length_cons, merge_len (x :: xs) ys]
      simp only [List.length_cons]
      omega
termination_by xs ys => xs.length + ys.length
theorem merge_go (a b : List SL) (hm : a.length + b.length ≤ 3000000) : ∀ (n : Nat) (acc : List SL) (i j : Nat), (a.length - i) + (b.length - j) = n → i ≤ a.length → j ≤ b.length → acc.length ≤ i + j →
    Ev (fun k => spec_l5Merge.l0 k a b acc (i : Int) (j : Int)) (acc ++ mergeL (a.drop i) (b.drop j)) := by
  intro n
  induction n with
  | zero =>
    intro acc i j hn hi hj _
    have e1 : a.drop i = [] := List.drop_eq_nil_of_le (by omega)
    have e2 : b.drop j = [] := List.drop_eq_nil_of_le (by omega)
    rw [e1, e2, merge_nil, List.append_nil]
    refine Ev.step (f := fun k => spec_l5Merge.j1 k a b acc (i : Int) (j : Int) false) (fun k => ?_) (Ev_one fun k => ?_)
    · show spec_l5Merge.l0 (k + 1) a b acc (i : Int) (j : Int) = _
      simp only [spec_l5Merge.l0]
      rw [if_neg (by omega), decide_eq_false (by omega)]
    · show spec_l5Merge.j1 (k + 1) a b acc (i : Int) (j : Int) false = _
      simp only [spec_l5Merge.j1]
      rw [if_neg (by decide)]
  | succ n ih =>
    intro acc i j hn hi hj ha
    have e0 : ∀ k, spec_l5Merge.l0 (k + 1) a b acc (i : Int) (j : Int) = spec_l5Merge.j1 k a b acc (i : Int) (j : Int) true := fun k => by
      simp only [spec_l5Merge.l0]
      by_cases h1 : i < a.length
      · rw [if_pos (by omega)]
      · rw [if_neg (by omega), decide_eq_true (by omega)]
    refine Ev.step e0 ?_
    have takeA : i < a.length → mergeL (a.drop i) (b.drop j) = a.getD i z37 :: mergeL (a.drop (i + 1)) (b.drop j) → (∀ k, spec_l5Merge.j1 (k + 1) a b acc (i : Int) (j : Int) true = spec_l5Merge.l0 k a b (acc ++ [a.getD i z37]) ((i + 1 : Nat) : Int) (j : Int)) → Ev (fun k => spec_l5Merge.j1 k a b acc (i : Int) (j : Int) true) (acc ++ mergeL (a.drop i) (b.drop j)) := by
      intro h1 h2 h3
      have h4 := ih (acc ++ [a.getD i z37]) (i + 1) j (by omega) (by omega) hj (by rw [List.length_append, List.length_singleton]; omega)
      rw [h2, show acc ++ a.getD i z37 :: mergeL (a.drop (i + 1)) (b.drop j) = (acc ++ [a.getD i z37]) ++ mergeL (a.drop (i + 1)) (b.drop j) by rw [List.append_assoc]; rfl]
      exact Ev.step h3 h4
    have takeB : j < b.length → mergeL (a.drop i) (b.drop j) = b.getD j z37 :: mergeL (a.drop i) (b.drop (j + 1)) → (∀ k, spec_l5Merge.j1 (k + 1) a b acc (i : Int) (j : Int) true = spec_l5Merge.l0 k a b (acc ++ [b.getD j z37]) (i : Int) ((j + 1 : Nat) : Int)) → Ev (fun k => spec_l5Merge.j1 k a b acc (i : Int) (j : Int) true) (acc ++ mergeL (a.drop i) (b.drop j)) := by
      intro h1 h2 h3
      have h4 := ih (acc ++ [b.getD j z37]) i (j + 1) (by omega) hi (by omega) (by rw [List.length_append, List.length_singleton]; omega)
      rw [h2, show acc ++ b.getD j z37 :: mergeL (a.drop i) (b.drop (j + 1)) = (acc ++ [b.getD j z37]) ++ mergeL (a.drop i) (b.drop (j + 1)) by rw [List.append_assoc]; rfl]
      exact Ev.step h3 h4
    by_cases hb : j = b.length
    · have h1 : i < a.length := by omega
      refine takeA h1 (by rw [show b.drop j = [] from List.drop_eq_nil_of_le (by omega), merge_nil, merge_nil, drop_getD z37 a i h1]) fun k => ?_
      simp only [spec_l5Merge.j1]
      rw [if_pos trivial, if_pos (by omega), if_pos (by omega), if_pos (by omega), if_pos (by omega), w_succ h1 (by omega)]
      simp only [rdL]
    · have h2 : j < b.length := by omega
      by_cases h1 : i < a.length
      · by_cases hl : Lt (a.getD i z37) (b.getD j z37)
        · refine takeA h1 (by rw [drop_getD z37 a i h1, drop_getD z37 b j h2, mergeL, if_pos hl]) fun k => ?_
          simp only [spec_l5Merge.j1]
          rw [if_pos trivial, if_neg (by omega), if_pos (by omega), if_pos (by omega), if_pos (by omega), if_pos (by omega), w_succ h1 (by omega)]
          simp only [rdL, before_s, Option.bind_some, decide_eq_true_iff]
          rw [if_pos hl, if_pos (by omega)]
        · refine takeB h2 (by rw [drop_getD z37 a i h1, drop_getD z37 b j h2, mergeL, if_neg hl]) fun k => ?_
          simp only [spec_l5Merge.j1]
          rw [if_pos trivial, if_neg (by omega), if_pos (by omega), if_pos (by omega), if_pos (by omega), if_pos (by omega), w_succ h2 (by omega)]
          simp only [rdL, before_s, Option.bind_some, decide_eq_true_iff]
          rw [if_neg hl, if_pos (by omega)]
      · refine takeB h2 (by rw [show a.drop i = [] from List.drop_eq_nil_of_le (by omega), nil_merge, nil_merge, drop_getD z37 b j h2]) fun k => ?_
        simp only [spec_l5Merge.j1]
        rw [if_pos trivial, if_neg (by omega), if_neg (by omega), if_pos (by omega), if_pos (by omega), if_pos (by omega), w_succ h2 (by omega)]
        simp only [rdL]
theorem merge_s (a b : List SL) (hm : a.length + b.length ≤ 3000000) : Ev (fun k => spec_l5Merge.f k a b) (mergeL a b) := by
  unfold spec_l5Merge.f
  have h := merge_go a b hm _ [] 0 0 rfl (Nat.zero_le _) (Nat.zero_le _) (Nat.le_refl _)
  rw [List.drop_zero, List.drop_zero, List.nil_append] at h
  exact h
end Go.Proofs.Ytomanpmffjkkgaa.E3
namespace Go.Proofs.Ytomanpmffjkkgaa.E5
open Go Go.RowKit Go.Proofs.Ytomanpmffjkkgaa.P Go.Proofs.YtomanpmffjkkgaaW.PrintWords Go.Proofs.YtomanpmffjkkgaaW.PrintLast Go.Proofs.Ytomanpmffjkkgaa.EV Go.Proofs.Ytomanpmffjkkgaa.I1 Go.Proofs.Ytomanpmffjkkgaa.N1 Go.Proofs.Ytomanpmffjkkgaa.E1 Go.Proofs.Ytomanpmffjkkgaa.E2 Go.Proofs.Ytomanpmffjkkgaa.E3
def Key (x y : SL) : Prop := x.f0 = y.f0 ∧ x.f1 = y.f1 ∧ x.f2 = y.f2
theorem tri (x y : SL) : Lt x y ∨ Lt y x ∨ Key x y := by
  unfold Lt Key
  omega
theorem Lt.not {x y : SL} (h : Lt x y) : ¬Lt y x := by
  unfold Lt at *
  omega
theorem Lt.nkey {x y : SL} (h : Lt x y) : ¬Key x y := by
  unfold Lt Key at *
  omega
theorem Lt.nkey' {x y : SL} (h : Lt x y) : ¬Key y x := by
  unfold Lt Key at *
  omega
theorem chn_pw : ∀ (l : List SL) (y : SL), Chn (some y) l → (y :: l).Pairwise Lt
  | [], y, _ => by simp
  | x :: xs, y, h => by
    have ih := chn_pw xs x h.2
    refine List.pairwise_cons.2 ⟨fun z hz => ?_, ih⟩
    exact Chn.all h z hz
theorem right_pw {l : List SL} (h : Chn none l) : l.Pairwise Lt := by
  cases l with
  | nil => exact List.Pairwise.nil
  | cons x xs => exact chn_pw xs x h
theorem pw_uniq : ∀ {l : List SL}, l.Pairwise Lt → ∀ x ∈ l, ∀ y ∈ l, Key x y → x = y
  | [], _, x, hx => by cases hx
  | z :: zs, h, x, hx => by
    intro y hy hk
    have h2 := List.pairwise_cons.1 h
    rcases List.mem_cons.1 hx with e1 | hx1
    · rcases List.mem_cons.1 hy with e2 | hy1
      · rw [e1, e2]
      · rw [e1] at hk
        exact absurd hk (Lt.nkey (h2.1 y hy1))
    · rcases List.mem_cons.1 hy with e2 | hy1
      · rw [e2] at hk
        exact absurd hk (Lt.nkey' (h2.1 x hx1))
      · exact pw_uniq h2.2 x hx1 y hy1 hk
theorem merge_perm : ∀ (xs ys : List SL), (mergeL xs ys).Perm (xs ++ ys)
  | [], ys => by rw [nil_merge]; exact List.Perm.refl _
  | x :: xs, [] => by rw [merge_nil, List.append_nil]
  | x :: xs, y :: ys => by
    rw [mergeL]
    split
    · exact (merge_perm xs (y :: ys)).cons x
    · refine ((merge_perm (x :: xs) ys).cons y).trans ?_
      exact (List.perm_middle (l₁ := x :: xs) (l₂ := ys) (a := y)).symm
termination_by xs ys => xs.length + ys.length
theorem merge_pw : ∀ (xs ys : List SL), xs.Pairwise Lt → ys.Pairwise Lt → (∀ x ∈ xs, ∀ y ∈ ys, ¬Key x y) → (mergeL xs ys).Pairwise Lt
  | [], ys, _, h, _ => by rw [nil_merge]; exact h
  | x :: xs, [], h, _, _ => by rw [merge_nil]; exact h
  | x :: xs, y :: ys, hx, hy, hk => by
    have hx2 := List.pairwise_cons.1 hx
    have hy2 := List.pairwise_cons.1 hy
    rw [mergeL]
    split
    · rename_i hl
      refine List.pairwise_cons.2 ⟨fun z hz => ?_, merge_pw xs (y :: ys) hx2.2 hy fun a ha b hb => hk a (List.mem_cons_of_mem _ ha) b hb⟩
      rcases List.mem_append.1 ((merge_perm xs (y :: ys)).mem_iff.1 hz) with h | h
      · exact hx2.1 z h
      · rcases List.mem_cons.1 h with rfl | h
        · exact hl
        · exact hl.trans (hy2.1 z h)
    · rename_i hl
      have hl2 : Lt y x := by
        rcases tri x y with h | h | h
        · exact absurd h hl
        · exact h
        · exact absurd h (hk x (List.mem_cons_self ..) y (List.mem_cons_self ..))
      refine List.pairwise_cons.2 ⟨fun z hz => ?_, merge_pw (x :: xs) ys hx hy2.2 fun a ha b hb => hk a ha b (List.mem_cons_of_mem _ hb)⟩
      rcases List.mem_append.1 ((merge_perm (x :: xs) ys).mem_iff.1 hz) with h | h
      · rcases List.mem_cons.1 h with rfl | h
        · exact hl2
        · exact hl2.trans (hx2.1 z h)
      · exact hy2.1 z h
termination_by xs ys => xs.length + ys.length
theorem srt_eq {m s : List SL} (hp : m.Perm s) (hs : s.Pairwise Lt) : impl_withLots.srt m = s := by
  unfold impl_withLots.srt
  have hle : ∀ x y : SL, (!decide (impl_LotsOk.cmp y x < 0)) = true ↔ ¬Lt y x := fun x y => by
    have h := impl_withLots.cmp_iff y x
    have h2 : (impl_LotsOk.cmp y x < 0) ↔ Lt y x := h
    rw [Bool.not_eq_true', decide_eq_false_iff_not, h2]
  have h1 := List.pairwise_mergeSort (le := fun x y => !decide (impl_LotsOk.cmp y x < 0)) (fun a b c h g => by
    rw [hle] at *
    unfold Lt at *
    omega) (fun a b => by
    rw [Bool.or_eq_true, hle, hle]
    unfold Lt
    omega) m
  refine List.Perm.eq_of_pairwise (le := fun x y => (!decide (impl_LotsOk.cmp y x < 0)) = true) (fun a b ha hb h g => ?_) h1 (hs.imp fun h => (hle _ _).2 (Lt.not h)) ((List.mergeSort_perm _ _).trans hp)
  rw [hle] at h g
  have ha2 : a ∈ s := (((List.mergeSort_perm m _).trans hp).mem_iff).1 ha
  refine pw_uniq hs a ha2 b hb ?_
  rcases tri a b with k | k | k
  · exact absurd k g
  · exact absurd k h
  · exact k
theorem with_i (l : List SL) (a b : Int) (m s : List SL) (hl : l.length ≤ 1048576) (hm : m.length ≤ 1048576) (hw : l.Pairwise Lt) (hp : m.Perm s) (hs : s.Pairwise Lt) (ho : ∀ x ∈ s, x.f0 = a ∧ x.f1 = b) :
    impl_withLots.f l a b m = some (mergeL (outL a b l) s) ∧ (mergeL (outL a b l) s).Pairwise Lt := by
  have hr : impl_withLots.rest l a b = outL a b l := rfl
  have hrp : (outL a b l).Pairwise Lt := hw.filter _
  have hk : ∀ x ∈ outL a b l, ∀ y ∈ s, ¬Key x y := fun x hx y hy k => by
    have h1 := (List.mem_filter.1 hx).2
    have h2 := ho y hy
    unfold Key at k
    unfold Own at h1
    rw [Bool.not_eq_true', decide_eq_false_iff_not] at h1
    exact h1 ⟨k.1.trans h2.1, k.2.1.trans h2.2⟩
  have hmp := merge_pw _ _ hrp hs hk
  have hpp : (outL a b l ++ m).Perm (mergeL (outL a b l) s) := (hp.append_left _).trans (merge_perm _ _).symm
  refine ⟨?_, hmp⟩
  unfold impl_withLots.f
  rw [hr, if_pos ⟨by omega, by omega, fun x hx y hy k => by
    have := pw_uniq hmp x (hpp.mem_iff.1 hx) y (hpp.mem_iff.1 hy) k
    rw [this]
    exact ⟨rfl, rfl⟩⟩, srt_eq hpp hmp]
end Go.Proofs.Ytomanpmffjkkgaa.E5
namespace Go.Proofs.Ytomanpmffjkkgaa.L1
open Go Go.RowKit
theorem u64w (n : Int) : IntKind.u64.wrap n = n % 18446744073709551616 := by simp [IntKind.wrap, IntKind.bits, IntKind.signed]
theorem u64w_id (n : Int) (h0 : 0 ≤ n) (h1 : n < 18446744073709551616) : IntKind.u64.wrap n = n := by rw [u64w]; omega
theorem wraps_u64 (n : Int) (h₀ : 0 ≤ n) (h₁ : n < 2 ^ 64) : IntKind.u64.wrap n = n := u64w_id n h₀ (by simpa using h₁)
theorem and32 (x : Int) (h0 : 0 ≤ x) (h1 : x < 18446744073709551616) : Go.bits .and .u64 x 4294967295 = x % 4294967296 :=
  bits_mask .u64 64 (by decide) wraps_u64 32 (by decide) x h0 (by simpa using h1)
theorem w64_id (n : Int) (h0 : -9223372036854775808 ≤ n) (h1 : n ≤ 9223372036854775807) : wrap64 n = n := by unfold wrap64; omega
theorem mul64 (a b : Int) (ha0 : 0 ≤ a) (ha : a < 18446744073709551616) (hb0 : 0 ≤ b) (hb : b < 18446744073709551616) :
    IntKind.u64.wrap ((IntKind.u64.wrap ((IntKind.u64.wrap ((a / 4294967296) * (b / 4294967296))) + ((IntKind.u64.wrap ((IntKind.u64.wrap ((a / 4294967296) * (Go.bits .and .u64 b 4294967295))) + ((IntKind.u64.wrap ((Go.bits .and .u64 a 4294967295) * (Go.bits .and .u64 b 4294967295))) / 4294967296))) / 4294967296))) + ((IntKind.u64.wrap ((Go.bits .and .u64 (IntKind.u64.wrap ((IntKind.u64.wrap ((a / 4294967296) * (Go.bits .and .u64 b 4294967295))) + ((IntKind.u64.wrap ((Go.bits .and .u64 a 4294967295) * (Go.bits .and .u64 b 4294967295))) / 4294967296))) 4294967295) + (IntKind.u64.wrap ((Go.bits .and .u64 a 4294967295) * (b / 4294967296))))) / 4294967296)) = a * b / 18446744073709551616 := by
  obtain ⟨x, rfl⟩ := Int.eq_ofNat_of_zero_le ha0
  obtain ⟨y, rfl⟩ := Int.eq_ofNat_of_zero_le hb0
  have hx : x < 18446744073709551616 := by omega
  have hy : y < 18446744073709551616 := by omega
  obtain ⟨h1, h2, h3, h4⟩ := Lib.mul64_hi x y hx hy
  have e1 : ((x : Int) / 4294967296) = ((x / 4294967296 : Nat) : Int) := by omega
  have e2 : ((y : Int) / 4294967296) = ((y / 4294967296 : Nat) : Int) := by omega
  have e3 : ((x : Int) % 4294967296) = ((x % 4294967296 : Nat) : Int) := by omega
  have e4 : ((y : Int) % 4294967296) = ((y % 4294967296 : Nat) : Int) := by omega
  have ep : ((x : Int) * (y : Int)) = ((x * y : Nat) : Int) := (Int.natCast_mul _ _).symm
  have eh : ((x * y / 18446744073709551616 : Nat) : Int) = ((x * y : Nat) : Int) / 18446744073709551616 := by omega
  have ma := Lib.half_mul_le (a := x / 4294967296) (b := y / 4294967296) (by omega) (by omega)
  have mb := Lib.half_mul_le (a := x / 4294967296) (b := y % 4294967296) (by omega) (by omega)
  have mc := Lib.half_mul_le (a := x % 4294967296) (b := y / 4294967296) (by omega) (by omega)
  have md := Lib.half_mul_le (a := x % 4294967296) (b := y % 4294967296) (by omega) (by omega)
  rw [and32 _ ha0 ha, and32 _ hb0 hb, e1, e2, e3, e4, ep, ← eh, ← h4]
  have p1 : (((x / 4294967296 : Nat) : Int) * ((y / 4294967296 : Nat) : Int)) = ((x / 4294967296 * (y / 4294967296) : Nat) : Int) := (Int.natCast_mul _ _).symm
  have p2 : (((x / 4294967296 : Nat) : Int) * ((y % 4294967296 : Nat) : Int)) = ((x / 4294967296 * (y % 4294967296) : Nat) : Int) := (Int.natCast_mul _ _).symm
  have p3 : (((x % 4294967296 : Nat) : Int) * ((y / 4294967296 : Nat) : Int)) = ((x % 4294967296 * (y / 4294967296) : Nat) : Int) := (Int.natCast_mul _ _).symm
  have p4 : (((x % 4294967296 : Nat) : Int) * ((y % 4294967296 : Nat) : Int)) = ((x % 4294967296 * (y % 4294967296) : Nat) : Int) := (Int.natCast_mul _ _).symm
  rw [p1, p2, p3, p4]
  generalize x / 4294967296 * (y / 4294967296) = a at *
  generalize x / 4294967296 * (y % 4294967296) = b at *
  generalize x % 4294967296 * (y / 4294967296) = c at *
  generalize x % 4294967296 * (y % 4294967296) = d at *
  have q1 : IntKind.u64.wrap (a : Int) = a := u64w_id _ (by omega) (by omega)
  have q2 : IntKind.u64.wrap (b : Int) = b := u64w_id _ (by omega) (by omega)
  have q3 : IntKind.u64.wrap (c : Int) = c := u64w_id _ (by omega) (by omega)
  have q4 : IntKind.u64.wrap (d : Int) = d := u64w_id _ (by omega) (by omega)
  rw [q1, q2, q3, q4]
  have q5 : IntKind.u64.wrap ((b : Int) + (d : Int) / 4294967296) = (b : Int) + (d : Int) / 4294967296 := u64w_id _ (by omega) (by omega)
  rw [q5, and32 _ (by omega) (by omega)]
  have q6 : IntKind.u64.wrap (((b : Int) + (d : Int) / 4294967296) % 4294967296 + (c : Int)) = ((b : Int) + (d : Int) / 4294967296) % 4294967296 + (c : Int) := u64w_id _ (by omega) (by omega)
  have q7 : IntKind.u64.wrap ((a : Int) + ((b : Int) + (d : Int) / 4294967296) / 4294967296) = (a : Int) + ((b : Int) + (d : Int) / 4294967296) / 4294967296 := u64w_id _ (by omega) (by omega)
  rw [q6, q7, u64w]
  omega
end Go.Proofs.Ytomanpmffjkkgaa.L1
namespace Go.Proofs.Ytomanpmffjkkgaa.A2
open Go Go.RowKit Go.Proofs.Ytomanpmffjkkgaa.P Go.Proofs.YtomanpmffjkkgaaW.PrintWords Go.Proofs.YtomanpmffjkkgaaW.PrintLast Go.Proofs.YtomanpmffjkkgaaW.PrintMore Go.Proofs.Ytomanpmffjkkgaa.EV Go.Proofs.Ytomanpmffjkkgaa.L1 Go.Proofs.Ytomanpmffjkkgaa.I1
def Bits (x : Int) (n : Nat) : Prop := (x = 0 ∧ n = 0) ∨ (0 < n ∧ 2 ^ (n - 1) ≤ x ∧ x < 2 ^ n)
def tab : ByteArray := (⟨#[0, 1, 2, 2, 3, 3, 3, 3, 4, 4, 4, 4, 4, 4, 4, 4, 5, 5, 5, 5, 5, 5, 5, 5, 5, 5, 5, 5, 5, 5, 5, 5, 6, 6, 6, 6, 6, 6, 6, 6, 6, 6, 6, 6, 6, 6, 6, 6, 6, 6, 6, 6, 6, 6, 6, 6, 6, 6, 6, 6, 6, 6, 6, 6, 7, 7, 7, 7, 7, 7, 7, 7, 7, 7, 7, 7, 7, 7, 7, 7, 7, 7, 7, 7, 7, 7, 7, 7, 7, 7, 7, 7, 7, 7, 7, 7, 7, 7, 7, 7, 7, 7, 7, 7, 7, 7, 7, 7, 7, 7, 7, 7, 7, 7, 7, 7, 7, 7, 7, 7, 7, 7, 7, 7, 7, 7, 7, 7, 8, 8, 8, 8, 8, 8, 8, 8, 8, 8, 8, 8, 8, 8, 8, 8, 8, 8, 8, 8, 8, 8, 8, 8, 8, 8, 8, 8, 8, 8, 8, 8, 8, 8, 8, 8, 8, 8, 8, 8, 8, 8, 8, 8, 8, 8, 8, 8, 8, 8, 8, 8, 8, 8, 8, 8, 8, 8, 8, 8, 8, 8, 8, 8, 8, 8, 8, 8, 8, 8, 8, 8, 8, 8, 8, 8, 8, 8, 8, 8, 8, 8, 8, 8, 8, 8, 8, 8, 8, 8, 8, 8, 8, 8, 8, 8, 8, 8, 8, 8, 8, 8, 8, 8, 8, 8, 8, 8, 8, 8, 8, 8, 8, 8, 8, 8, 8, 8, 8, 8, 8, 8, 8, 8, 8, 8, 8, 8]⟩ : ByteArray)
theorem tab8 : ∀ x : Fin 256, 0 ≤ bt tab (x.val : Int) ∧ bt tab (x.val : Int) ≤ 8 ∧ ((x.val = 0 ∧ bt tab (x.val : Int) = 0) ∨ (0 < bt tab (x.val : Int) ∧ (2 : Int) ^ ((bt tab (x.val : Int)).toNat - 1) ≤ x.val ∧ (x.val : Int) < 2 ^ (bt tab (x.val : Int)).toNat)) := by decide +kernel
theorem tab_at (x : Int) (h0 : 0 ≤ x) (h1 : x < 256) : ∃ n : Nat, bt tab x = (n : Int) ∧ n ≤ 8 ∧ Bits x n := by
  obtain ⟨m, rfl⟩ := Int.eq_ofNat_of_zero_le h0
  obtain ⟨a, b, c⟩ : 0 ≤ bt tab (m : Int) ∧ bt tab (m : Int) ≤ 8 ∧ ((m = 0 ∧ bt tab (m : Int) = 0) ∨ (0 < bt tab (m : Int) ∧ (2 : Int) ^ ((bt tab (m : Int)).toNat - 1) ≤ m ∧ (m : Int) < 2 ^ (bt tab (m : Int)).toNat)) := tab8 ⟨m, by omega⟩
  refine ⟨(bt tab (m : Int)).toNat, by omega, by omega, ?_⟩
  rcases c with ⟨c1, c2⟩ | ⟨c1, c2, c3⟩
  · exact .inl ⟨by omega, by omega⟩
  · exact .inr ⟨by omega, c2, c3⟩
theorem bits_up {x y : Int} {n : Nat} (s : Nat) (hs : y = x / 2 ^ s) (hy : 0 < y) (h : Bits y n) : Bits x (n + s) := by
  rcases h with ⟨h, _⟩ | ⟨h0, h1, h2⟩
  · omega
  · have hp : (0 : Int) < 2 ^ s := Int.pow_pos (by decide)
    have e1 : (2 : Int) ^ (n + s - 1) = 2 ^ (n - 1) * 2 ^ s := by rw [← Int.pow_add]; congr 1; omega
    have e2 : (2 : Int) ^ (n + s) = 2 ^ n * 2 ^ s := Int.pow_add _ _ _
    refine .inr ⟨by omega, ?_, ?_⟩
    · rw [e1]
      exact Int.le_trans (Int.mul_le_mul_of_nonneg_right h1 (Int.le_of_lt hp)) (by rw [hs]; exact Int.ediv_mul_le x (Int.ne_of_gt hp))
    · rw [e2]
      have := Int.lt_ediv_add_one_mul_self x hp
      rw [← hs] at this
      exact Int.lt_of_lt_of_le this (Int.mul_le_mul_of_nonneg_right (by omega) (Int.le_of_lt hp))
def body8 (x c : Int) : Option Int := if x ≥ 65536 then (if (x / 65536) ≥ 256 then (if 0 ≤ (((x / 65536) / 256) % 256) then (if (((x / 65536) / 256) % 256) < 256 then (some (wrap64 ((wrap64 ((wrap64 (c + 16)) + 8)) + (wrap64 (bt tab (((x / 65536) / 256) % 256)))))) else (none)) else (none)) else (if 0 ≤ ((x / 65536) % 256) then (if ((x / 65536) % 256) < 256 then (some (wrap64 ((wrap64 (c + 16)) + (wrap64 (bt tab ((x / 65536) % 256)))))) else (none)) else (none))) else (if x ≥ 256 then (if 0 ≤ ((x / 256) % 256) then (if ((x / 256) % 256) < 256 then (some (wrap64 ((wrap64 (c + 8)) + (wrap64 (bt tab ((x / 256) % 256)))))) else (none)) else (none)) else (if 0 ≤ ((x) % 256) then (if ((x) % 256) < 256 then (some (wrap64 (c + (wrap64 (bt tab ((x) % 256)))))) else (none)) else (none)))
theorem body8_is (k : Nat) (x c : Int) : bits_Len64.j0 (k + 1) x c = body8 x c := rfl
theorem len64j (x c : Int) (h0 : 0 ≤ x) (h1 : x < 4294967296) (hc : 0 ≤ c) (hc2 : c ≤ 32) : ∃ n : Nat, n ≤ 32 ∧ Bits x n ∧ ∀ k, bits_Len64.j0 (k + 1) x c = some (c + n) := by
  by_cases a : x ≥ 65536
  · by_cases b : x / 65536 ≥ 256
    · obtain ⟨n, e, hn, hb⟩ := tab_at (x / 65536 / 256) (by omega) (by omega)
      refine ⟨n + 24, by omega, bits_up 24 (by omega) (by omega) hb, fun k => ?_⟩
      rw [body8_is]
      unfold body8
      rw [if_pos a, if_pos b, show x / 65536 / 256 % 256 = x / 65536 / 256 by omega, if_pos (by omega), if_pos (by omega)]
      rw [e, w64_id (c + 16) (by omega) (by omega), w64_id (c + 16 + 8) (by omega) (by omega), w64_id (n : Int) (by omega) (by omega), w64_id _ (by omega) (by omega)]
      exact congrArg some (by omega)
    · obtain ⟨n, e, hn, hb⟩ := tab_at (x / 65536) (by omega) (by omega)
      refine ⟨n + 16, by omega, bits_up 16 (by omega) (by omega) hb, fun k => ?_⟩
      rw [body8_is]
      unfold body8
      rw [if_pos a, if_neg b, show x / 65536 % 256 = x / 65536 by omega, if_pos (by omega), if_pos (by omega)]
      rw [e, w64_id (c + 16) (by omega) (by omega), w64_id (n : Int) (by omega) (by omega), w64_id _ (by omega) (by omega)]
      exact congrArg some (by omega)
  · by_cases b : x ≥ 256
    · obtain ⟨n, e, hn, hb⟩ := tab_at (x / 256) (by omega) (by omega)
      refine ⟨n + 8, by omega, bits_up 8 (by omega) (by omega) hb, fun k => ?_⟩
      rw [body8_is]
      unfold body8
      rw [if_neg a, if_pos b, show x / 256 % 256 = x / 256 by omega, if_pos (by omega), if_pos (by omega)]
      rw [e, w64_id (c + 8) (by omega) (by omega), w64_id (n : Int) (by omega) (by omega), w64_id _ (by omega) (by omega)]
      exact congrArg some (by omega)
    · obtain ⟨n, e, hn, hb⟩ := tab_at x (by omega) (by omega)
      refine ⟨n, by omega, hb, fun k => ?_⟩
      rw [body8_is]
      unfold body8
      rw [if_neg a, if_neg b, show x % 256 = x by omega, if_pos (by omega), if_pos (by omega)]
      rw [e, w64_id (n : Int) (by omega) (by omega), w64_id _ (by omega) (by omega)]
theorem zeros64 (y : Int) (h0 : 0 < y) (h1 : y < 18446744073709551616) : ∃ s : Nat, s ≤ 63 ∧ 9223372036854775808 ≤ y * 2 ^ s ∧ y * 2 ^ s < 18446744073709551616 ∧ ∀ k, bits_LeadingZeros64.f (k + 1) y = some (s : Int) := by
  have fin : ∀ n : Nat, n ≤ 64 → Bits y n → ∃ s : Nat, s ≤ 63 ∧ (s : Int) = 64 - n ∧ 9223372036854775808 ≤ y * 2 ^ s ∧ y * 2 ^ s < 18446744073709551616 := by
    intro n hn hb
    rcases hb with ⟨h, _⟩ | ⟨a, b, c⟩
    · omega
    · have hp : (0 : Int) < 2 ^ (64 - n) := Int.pow_pos (by decide)
      refine ⟨64 - n, by omega, by omega, ?_, ?_⟩
      · have e : (9223372036854775808 : Int) = 2 ^ (n - 1) * 2 ^ (64 - n) := by rw [← Int.pow_add, show n - 1 + (64 - n) = 63 by omega]; decide
        rw [e]
        exact Int.mul_le_mul_of_nonneg_right b (Int.le_of_lt hp)
      · have e : (18446744073709551616 : Int) = 2 ^ n * 2 ^ (64 - n) := by rw [← Int.pow_add, show n + (64 - n) = 64 by omega]; decide
        rw [e]
        exact Int.mul_lt_mul_of_pos_right c hp
  by_cases a : y ≥ 4294967296
  · obtain ⟨n, hn, hb, e⟩ := len64j (y / 4294967296) 32 (by omega) (by omega) (by decide) (by decide)
    obtain ⟨s, s0, s1, s2, s3⟩ := fin (n + 32) (by omega) (bits_up 32 (by omega) (by omega) hb)
    refine ⟨s, s0, s2, s3, fun k => ?_⟩
    unfold bits_LeadingZeros64.f bits_Len64.f
    rw [if_pos a, e, Option.bind_some, w64_id _ (by omega) (by omega)]
    exact congrArg some (by omega)
  · obtain ⟨n, hn, hb, e⟩ := len64j y 0 (by omega) (by omega) (by decide) (by decide)
    obtain ⟨s, s0, s1, s2, s3⟩ := fin n (by omega) hb
    refine ⟨s, s0, s2, s3, fun k => ?_⟩
    unfold bits_LeadingZeros64.f bits_Len64.f
    rw [if_neg a, e, Option.bind_some, w64_id _ (by omega) (by omega)]
    exact congrArg some (by omega)
structure Trial (yn1 yn0 n u q r : Int) : Prop where
  q0 : 0 ≤ q
  q1 : q ≤ 4294967297
  r0 : 0 ≤ r
  r1 : r < 4294967296
  e : q * yn1 + r = n
  up : n * 4294967296 + u < (q * yn1) * 4294967296 + q * yn0 + yn1 * 4294967296 + yn0
structure Halves (yn1 yn0 n u : Int) : Prop where
  a0 : 2147483648 ≤ yn1
  a1 : yn1 < 4294967296
  b0 : 0 ≤ yn0
  b1 : yn0 < 4294967296
  u0 : 0 ≤ u
  u1 : u < 4294967296
  n0 : 0 ≤ n
  n1 : n < yn1 * 4294967296 + yn0
theorem digit_lt {yn1 yn0 n u q : Int} (h : Halves yn1 yn0 n u) (hq : (q * yn1) * 4294967296 + q * yn0 ≤ n * 4294967296 + u) : q < 4294967296 := by
  obtain ⟨a0, a1, b0, b1, u0, u1, n0, n1⟩ := h
  rcases (by omega : q < 4294967296 ∨ 4294967296 ≤ q) with hlt | hge
  · exact hlt
  · exfalso
    have p1 : 4294967296 * yn1 ≤ q * yn1 := Int.mul_le_mul_of_nonneg_right hge (by omega)
    have p2 : 4294967296 * yn0 ≤ q * yn0 := Int.mul_le_mul_of_nonneg_right hge b0
    generalize q * yn1 = A at *
    generalize q * yn0 = C at *
    omega
theorem trial_down {yn1 yn0 n u q r : Int} (h : Halves yn1 yn0 n u) (t : Trial yn1 yn0 n u q r) (ht : 4294967296 ≤ q ∨ 4294967296 * r + u < q * yn0) :
    1 ≤ q ∧ n * 4294967296 + u < (q * yn1) * 4294967296 + q * yn0 ∧ (q - 1) * yn1 = q * yn1 - yn1 ∧ (q - 1) * yn0 = q * yn0 - yn0 ∧ q * yn0 - yn0 ≤ 18446744069414584320 := by
  obtain ⟨a0, a1, b0, b1, u0, u1, n0, n1⟩ := h
  obtain ⟨q0, q1, r0, r1, e, up⟩ := t
  have e1 : (q - 1) * yn1 = q * yn1 - yn1 := by rw [Int.sub_mul, Int.one_mul]
  have e0 : (q - 1) * yn0 = q * yn0 - yn0 := by rw [Int.sub_mul, Int.one_mul]
  have h1 : 1 ≤ q := by
    rcases (by omega : q = 0 ∨ 1 ≤ q) with hz | hz
    · subst hz
      rw [Int.zero_mul] at ht
      omega
    · exact hz
  have hb : (q - 1) * yn0 ≤ 4294967296 * 4294967295 := Int.mul_le_mul (by omega) (by omega) b0 (by decide)
  refine ⟨h1, ?_, e1, e0, by omega⟩
  rcases ht with ht | ht
  · have p1 : 4294967296 * yn1 ≤ q * yn1 := Int.mul_le_mul_of_nonneg_right ht (by omega)
    have p2 : 4294967296 * yn0 ≤ q * yn0 := Int.mul_le_mul_of_nonneg_right ht b0
    generalize q * yn1 = A at *
    generalize q * yn0 = C at *
    omega
  · generalize q * yn1 = A at *
    generalize q * yn0 = C at *
    omega
def Right (yn1 yn0 n u q : Int) : Prop := 0 ≤ q ∧ (q * yn1) * 4294967296 + q * yn0 ≤ n * 4294967296 + u ∧ n * 4294967296 + u < (q * yn1) * 4294967296 + q * yn0 + yn1 * 4294967296 + yn0
theorem trial_stop {yn1 yn0 n u q r : Int} (t : Trial yn1 yn0 n u q r) (h2 : ¬ 4294967296 * r + u < q * yn0) : Right yn1 yn0 n u q := by
  obtain ⟨q0, q1, r0, r1, e, up⟩ := t
  refine ⟨q0, ?_, up⟩
  generalize q * yn1 = A at *
  generalize q * yn0 = C at *
  omega
theorem trial_next {yn1 yn0 n u q r : Int} (h : Halves yn1 yn0 n u) (t : Trial yn1 yn0 n u q r) (ht : 4294967296 ≤ q ∨ 4294967296 * r + u < q * yn0) (hr : r + yn1 < 4294967296) : Trial yn1 yn0 n u (q - 1) (r + yn1) := by
  obtain ⟨h1, h2, e1, e0, hb⟩ := trial_down h t ht
  obtain ⟨a0, a1, b0, b1, u0, u1, n0, n1⟩ := h
  obtain ⟨q0, q1, r0, r1, e, up⟩ := t
  refine ⟨by omega, by omega, by omega, hr, ?_, ?_⟩
  · rw [e1]
    omega
  · rw [e1, e0]
    generalize q * yn1 = A at *
    generalize q * yn0 = C at *
    omega
theorem trial_last {yn1 yn0 n u q r : Int} (h : Halves yn1 yn0 n u) (t : Trial yn1 yn0 n u q r) (ht : 4294967296 ≤ q ∨ 4294967296 * r + u < q * yn0) (hr : 4294967296 ≤ r + yn1) : Right yn1 yn0 n u (q - 1) := by
  obtain ⟨h1, h2, e1, e0, hb⟩ := trial_down h t ht
  obtain ⟨a0, a1, b0, b1, u0, u1, n0, n1⟩ := h
  obtain ⟨q0, q1, r0, r1, e, up⟩ := t
  unfold Right
  rw [e1, e0]
  generalize q * yn1 = A at *
  generalize q * yn0 = C at *
  omega
theorem test_is {yn1 yn0 n u q r : Int} (h : Halves yn1 yn0 n u) (t : Trial yn1 yn0 n u q r) (hq : ¬ q ≥ 4294967296) :
    decide (IntKind.u64.wrap (q * yn0) > IntKind.u64.wrap (IntKind.u64.wrap (4294967296 * r) + u)) = decide (4294967296 * r + u < q * yn0) := by
  obtain ⟨a0, a1, b0, b1, u0, u1, n0, n1⟩ := h
  obtain ⟨q0, q1, r0, r1, e, up⟩ := t
  have hb : q * yn0 ≤ 4294967295 * 4294967295 := Int.mul_le_mul (by omega) (by omega) b0 (by decide)
  have hz : 0 ≤ q * yn0 := Int.mul_nonneg q0 b0
  rw [u64w_id (q * yn0) hz (by omega), u64w_id (4294967296 * r) (by omega) (by omega), u64w_id _ (by omega) (by omega)]
theorem trial_first {yn1 yn0 n u : Int} (h : Halves yn1 yn0 n u) : Trial yn1 yn0 n u (n / yn1) (n - n / yn1 * yn1) ∧ 0 ≤ n / yn1 * yn1 ∧ n / yn1 * yn1 ≤ n := by
  obtain ⟨a0, a1, b0, b1, u0, u1, n0, n1⟩ := h
  have p0 : 0 ≤ n / yn1 := Int.ediv_nonneg n0 (by omega)
  have p1 : n / yn1 * yn1 ≤ n := Int.ediv_mul_le n (by omega)
  have p2 : n < (n / yn1 + 1) * yn1 := Int.lt_ediv_add_one_mul_self n (by omega)
  have p3 : (n / yn1 + 1) * yn1 = n / yn1 * yn1 + yn1 := by rw [Int.add_mul, Int.one_mul]
  have p4 : 0 ≤ n / yn1 * yn1 := Int.mul_nonneg p0 (by omega)
  have p5 : 0 ≤ n / yn1 * yn0 := Int.mul_nonneg p0 b0
  refine ⟨⟨p0, ?_, by omega, by omega, by omega, ?_⟩, p4, p1⟩
  · rcases (by omega : n / yn1 ≤ 4294967297 ∨ 4294967298 ≤ n / yn1) with hle | hge
    · exact hle
    · exfalso
      have : 4294967298 * yn1 ≤ n / yn1 * yn1 := Int.mul_le_mul_of_nonneg_right hge (by omega)
      omega
  · generalize n / yn1 * yn1 = A at *
    generalize n / yn1 * yn0 = C at *
    omega
theorem rest_is {n u p : Int} (h0 : 0 ≤ n * 4294967296 + u - p) (h1 : n * 4294967296 + u - p < 18446744073709551616) :
    IntKind.u64.wrap (IntKind.u64.wrap (IntKind.u64.wrap (n * 4294967296) + u) - IntKind.u64.wrap p) = n * 4294967296 + u - p := by
  rw [u64w, u64w, u64w, u64w]
  omega
theorem times_y (q yn1 yn0 y : Int) (hy : y = yn1 * 4294967296 + yn0) : q * y = (q * yn1) * 4294967296 + q * yn0 := by
  rw [hy, Int.mul_add, ← Int.mul_assoc]
theorem l1_ok (y yn1 yn0 n u : Int) (s : Nat) (hy : y = yn1 * 4294967296 + yn0) (h : Halves yn1 yn0 n u) (q1 : Int) (hq1 : 0 ≤ q1) (hq2 : q1 < 4294967296) :
    ∀ (d : Nat) (q r : Int), Trial yn1 yn0 n u q r → 4294967296 ≤ r + d * 2147483648 →
      ∃ Q, Right yn1 yn0 n u Q ∧ Ev (fun k => bits_Div64.l1 k y (s : Int) yn1 yn0 u q1 r n q) (q1 * 4294967296 + Q, shr .u64 (n * 4294967296 + u - Q * y) (s : Int)) := by
  have fin : ∀ Q, Right yn1 yn0 n u Q → 0 ≤ n * 4294967296 + u - Q * y ∧ n * 4294967296 + u - Q * y < 18446744073709551616 ∧ Q < 4294967296 := by
    intro Q hQ
    have := digit_lt h hQ.2.1
    have e := times_y Q yn1 yn0 y hy
    obtain ⟨a0, a1, b0, b1, u0, u1, n0, n1⟩ := h
    obtain ⟨c0, c1, c2⟩ := hQ
    rw [e]
    generalize Q * yn1 = A at *
    generalize Q * yn0 = C at *
    omega
  intro d
  induction d with
  | zero =>
    intro q r t hd
    have := t.r1
    omega
  | succ d ih =>
    intro q r t hd
    have ht0 := t.q0
    have ht1 := t.q1
    have hr0 := t.r0
    have hr1 := t.r1
    have ha0 := h.a0
    have ha1 := h.a1
    have body : ∀ c : Bool, (c = true ↔ (4294967296 ≤ q ∨ 4294967296 * r + u < q * yn0)) →
        ∃ Q, Right yn1 yn0 n u Q ∧ Ev (fun k => bits_Div64.j4 k y (s : Int) yn1 yn0 u q1 r n q c) (q1 * 4294967296 + Q, shr .u64 (n * 4294967296 + u - Q * y) (s : Int)) := by
      intro c hc
      cases c with
      | true =>
        have ht := hc.1 rfl
        have hw : IntKind.u64.wrap (r + yn1) = r + yn1 := u64w_id _ (by omega) (by omega)
        have hd1 := (trial_down h t ht).1
        have hw2 : IntKind.u64.wrap (q - 1) = q - 1 := u64w_id _ (by omega) (by omega)
        by_cases hr : 4294967296 ≤ r + yn1
        · have hR := trial_last h t ht hr
          have hf := fin _ hR
          refine ⟨q - 1, hR, Ev_one fun k => ?_⟩
          simp only [bits_Div64.j4]
          rw [if_pos trivial, hw, if_pos (by omega), if_pos (by omega), hw2, rest_is hf.1 hf.2.1, u64w_id (q1 * 4294967296) (by omega) (by omega), u64w_id _ (by omega) (by omega)]
        · obtain ⟨Q, hQ, hE⟩ := ih (q - 1) (r + yn1) (trial_next h t ht (by omega)) (by omega)
          refine ⟨Q, hQ, Ev.step (fun k => ?_) hE⟩
          simp only [bits_Div64.j4]
          rw [if_pos trivial, hw, if_neg (by omega), hw2]
      | false =>
        have ht : ¬ (4294967296 ≤ q ∨ 4294967296 * r + u < q * yn0) := fun hh => Bool.noConfusion (hc.2 hh)
        have hR := trial_stop t (fun hh => ht (.inr hh))
        have hf := fin _ hR
        refine ⟨q, hR, Ev_one fun k => ?_⟩
        simp only [bits_Div64.j4]
        rw [if_neg (by decide), if_pos (by omega), rest_is hf.1 hf.2.1, u64w_id (q1 * 4294967296) (by omega) (by omega), u64w_id _ (by omega) (by omega)]
    by_cases hq : q ≥ 4294967296
    · obtain ⟨Q, hQ, hE⟩ := body true ⟨fun _ => .inl hq, fun _ => rfl⟩
      refine ⟨Q, hQ, Ev.step (fun k => ?_) hE⟩
      simp only [bits_Div64.l1]
      rw [if_pos hq]
    · obtain ⟨Q, hQ, hE⟩ := body (decide (4294967296 * r + u < q * yn0)) (by rw [decide_eq_true_iff]; omega)
      refine ⟨Q, hQ, Ev.step (fun k => ?_) hE⟩
      simp only [bits_Div64.l1]
      rw [if_neg hq, test_is h t hq]
theorem l0_ok (y yn1 yn0 n u v : Int) (s : Nat) (hy : y = yn1 * 4294967296 + yn0) (h : Halves yn1 yn0 n u) (hv0 : 0 ≤ v) (hv1 : v < 4294967296) :
    ∀ (d : Nat) (q r : Int), Trial yn1 yn0 n u q r → 4294967296 ≤ r + d * 2147483648 →
      ∃ Q1 Q0, 0 ≤ Q1 ∧ Q1 < 4294967296 ∧ 0 ≤ Q0 ∧ Q0 < 4294967296 ∧ 0 ≤ (n * 4294967296 + u - Q1 * y) * 4294967296 + v - Q0 * y ∧ (n * 4294967296 + u - Q1 * y) * 4294967296 + v - Q0 * y < y ∧
        Ev (fun k => bits_Div64.l0 k y (s : Int) yn1 yn0 n u v q r) (Q1 * 4294967296 + Q0, shr .u64 ((n * 4294967296 + u - Q1 * y) * 4294967296 + v - Q0 * y) (s : Int)) := by
  have fin : ∀ Q, Right yn1 yn0 n u Q → ∃ Q0, 0 ≤ Q ∧ Q < 4294967296 ∧ 0 ≤ Q0 ∧ Q0 < 4294967296 ∧ 0 ≤ (n * 4294967296 + u - Q * y) * 4294967296 + v - Q0 * y ∧ (n * 4294967296 + u - Q * y) * 4294967296 + v - Q0 * y < y ∧
        Ev (fun k => bits_Div64.j2 k y (s : Int) yn1 yn0 n u v Q) (Q * 4294967296 + Q0, shr .u64 ((n * 4294967296 + u - Q * y) * 4294967296 + v - Q0 * y) (s : Int)) := by
    intro Q hQ
    have hlt := digit_lt h hQ.2.1
    have e := times_y Q yn1 yn0 y hy
    obtain ⟨c0, c1, c2⟩ := hQ
    have ha0 := h.a0
    have ha1 := h.a1
    have hr0 : 0 ≤ n * 4294967296 + u - Q * y := by rw [e]; omega
    have hr1 : n * 4294967296 + u - Q * y < y := by
      rw [e, hy]
      generalize Q * yn1 = A at *
      generalize Q * yn0 = C at *
      omega
    have hw := rest_is (n := n) (u := u) (p := Q * y) hr0 (by have := h.b1; omega)
    generalize n * 4294967296 + u - Q * y = m at *
    have hH : Halves yn1 yn0 m v := ⟨h.a0, h.a1, h.b0, h.b1, hv0, hv1, hr0, by omega⟩
    obtain ⟨tr, tr0, tr1⟩ := trial_first hH
    obtain ⟨Q0, hQ0, hE⟩ := l1_ok y yn1 yn0 m v s hy hH Q c0 hlt 2 _ _ tr (by have := tr.r0; omega)
    have hlt0 := digit_lt hH hQ0.2.1
    have e0 := times_y Q0 yn1 yn0 y hy
    obtain ⟨g0, g1, g2⟩ := hQ0
    refine ⟨Q0, c0, hlt, g0, hlt0, by rw [e0]; omega, ?_, Ev.step (fun k => ?_) hE⟩
    · rw [e0, hy]
      generalize Q0 * yn1 = A at *
      generalize Q0 * yn0 = C at *
      omega
    · have hd : Int.tdiv m yn1 = m / yn1 := Int.tdiv_eq_ediv_of_nonneg hr0
      have hdr : 0 ≤ m / yn1 := tr.q0
      have hdr1 : m / yn1 ≤ 4294967297 := tr.q1
      simp only [bits_Div64.j2]
      rw [if_neg (by omega), hw, hd, u64w_id (m / yn1) hdr (by omega), u64w_id (m / yn1 * yn1) tr0 (by have := h.b1; omega), u64w_id (m - m / yn1 * yn1) (by omega) (by have := h.b1; omega)]
  intro d
  induction d with
  | zero =>
    intro q r t hd
    have := t.r1
    omega
  | succ d ih =>
    intro q r t hd
    have ht0 := t.q0
    have ht1 := t.q1
    have hr0 := t.r0
    have hr1 := t.r1
    have ha0 := h.a0
    have ha1 := h.a1
    have body : ∀ c : Bool, (c = true ↔ (4294967296 ≤ q ∨ 4294967296 * r + u < q * yn0)) →
        ∃ Q1 Q0, 0 ≤ Q1 ∧ Q1 < 4294967296 ∧ 0 ≤ Q0 ∧ Q0 < 4294967296 ∧ 0 ≤ (n * 4294967296 + u - Q1 * y) * 4294967296 + v - Q0 * y ∧ (n * 4294967296 + u - Q1 * y) * 4294967296 + v - Q0 * y < y ∧
        Ev (fun k => bits_Div64.j1 k y (s : Int) yn1 yn0 n u v q r c) (Q1 * 4294967296 + Q0, shr .u64 ((n * 4294967296 + u - Q1 * y) * 4294967296 + v - Q0 * y) (s : Int)) := by
      intro c hc
      cases c with
      | true =>
        have ht := hc.1 rfl
        have hw : IntKind.u64.wrap (r + yn1) = r + yn1 := u64w_id _ (by omega) (by omega)
        have hd1 := (trial_down h t ht).1
        have hw2 : IntKind.u64.wrap (q - 1) = q - 1 := u64w_id _ (by omega) (by omega)
        by_cases hr : 4294967296 ≤ r + yn1
        · obtain ⟨Q0, z0, z1, z2, z3, z4, z5, hE⟩ := fin _ (trial_last h t ht hr)
          refine ⟨q - 1, Q0, z0, z1, z2, z3, z4, z5, Ev.step (fun k => ?_) hE⟩
          simp only [bits_Div64.j1]
          rw [if_pos trivial, hw, if_pos (by omega), hw2]
        · obtain ⟨Q1, Q0, z0, z1, z2, z3, z4, z5, hE⟩ := ih (q - 1) (r + yn1) (trial_next h t ht (by omega)) (by omega)
          refine ⟨Q1, Q0, z0, z1, z2, z3, z4, z5, Ev.step (fun k => ?_) hE⟩
          simp only [bits_Div64.j1]
          rw [if_pos trivial, hw, if_neg (by omega), hw2]
      | false =>
        have ht : ¬ (4294967296 ≤ q ∨ 4294967296 * r + u < q * yn0) := fun hh => Bool.noConfusion (hc.2 hh)
        obtain ⟨Q0, z0, z1, z2, z3, z4, z5, hE⟩ := fin _ (trial_stop t (fun hh => ht (.inr hh)))
        refine ⟨q, Q0, z0, z1, z2, z3, z4, z5, Ev.step (fun k => ?_) hE⟩
        simp only [bits_Div64.j1]
        rw [if_neg (by decide)]
    by_cases hq : q ≥ 4294967296
    · obtain ⟨Q1, Q0, z0, z1, z2, z3, z4, z5, hE⟩ := body true ⟨fun _ => .inl hq, fun _ => rfl⟩
      refine ⟨Q1, Q0, z0, z1, z2, z3, z4, z5, Ev.step (fun k => ?_) hE⟩
      simp only [bits_Div64.l0]
      rw [if_pos hq]
    · obtain ⟨Q1, Q0, z0, z1, z2, z3, z4, z5, hE⟩ := body (decide (4294967296 * r + u < q * yn0)) (by rw [decide_eq_true_iff]; omega)
      refine ⟨Q1, Q0, z0, z1, z2, z3, z4, z5, Ev.step (fun k => ?_) hE⟩
      simp only [bits_Div64.l0]
      rw [if_neg hq, test_is h t hq]
theorem parts (hi lo y : Int) (s : Nat) (hs : s ≤ 63) (h0 : 0 ≤ hi) (h1 : hi < y) (l0 : 0 ≤ lo) (l1 : lo < 18446744073709551616) (y1 : y * 2 ^ s < 18446744073709551616) :
    ∃ n m : Int, Go.bits .or .u64 (shl .u64 hi (s : Int)) (shr .u64 lo (64 - (s : Int))) = n ∧ shl .u64 lo (s : Int) = m ∧ 0 ≤ n ∧ n < y * 2 ^ s ∧ 0 ≤ m ∧ m < 18446744073709551616 ∧ (hi * 18446744073709551616 + lo) * 2 ^ s = n * 18446744073709551616 + m := by
  have hp : (0 : Int) < 2 ^ s := Int.pow_pos (by decide)
  have hp2 : (0 : Int) < 2 ^ (64 - s) := Int.pow_pos (by decide)
  have hpp : (2 : Int) ^ (64 - s) * 2 ^ s = 18446744073709551616 := by rw [← Int.pow_add, show 64 - s + s = 64 by omega]; decide
  have e1 : shl .u64 hi (s : Int) = hi * 2 ^ s := by
    unfold shl
    rw [Int.toNat_natCast, Nat.min_eq_left (by show s ≤ 64; omega)]
    have a : 0 ≤ hi * 2 ^ s := Int.mul_nonneg h0 (Int.le_of_lt hp)
    have b : hi * 2 ^ s ≤ y * 2 ^ s := Int.mul_le_mul_of_nonneg_right (by omega) (Int.le_of_lt hp)
    exact u64w_id _ a (by omega)
  have e2 : shr .u64 lo (64 - (s : Int)) = lo / 2 ^ (64 - s) := by
    unfold shr
    rw [show (64 - (s : Int)).toNat = 64 - s by omega, Nat.min_eq_left (by show 64 - s ≤ 64; omega)]
  have e3 : shl .u64 lo (s : Int) = (lo * 2 ^ s) % 18446744073709551616 := by
    unfold shl
    rw [Int.toNat_natCast, Nat.min_eq_left (by show s ≤ 64; omega), u64w]
  have d0 : 0 ≤ lo / 2 ^ (64 - s) := Int.ediv_nonneg l0 (Int.le_of_lt hp2)
  have d1 : lo / 2 ^ (64 - s) < 2 ^ s := by
    refine Int.ediv_lt_of_lt_mul hp2 ?_
    rw [Int.mul_comm, hpp]
    exact l1
  have hx : 0 ≤ hi * 2 ^ s := Int.mul_nonneg h0 (Int.le_of_lt hp)
  have hx1 : hi * 2 ^ s + 2 ^ s ≤ y * 2 ^ s := by
    have : (hi + 1) * 2 ^ s ≤ y * 2 ^ s := Int.mul_le_mul_of_nonneg_right (by omega) (Int.le_of_lt hp)
    rw [Int.add_mul, Int.one_mul] at this
    exact this
  have e4 : Go.bits .or .u64 (hi * 2 ^ s) (lo / 2 ^ (64 - s)) = hi * 2 ^ s + lo / 2 ^ (64 - s) :=
    bits_join .u64 64 (by decide) wraps_u64 s _ _ hx (Int.mul_emod_left _ _) (by simpa using (by omega : hi * 2 ^ s < 18446744073709551616)) d0 d1 (by simpa using (by omega : lo / 2 ^ (64 - s) < 18446744073709551616))
  have e5 : lo * 2 ^ s = (lo / 2 ^ (64 - s)) * 18446744073709551616 + (lo * 2 ^ s) % 18446744073709551616 := by
    have a : lo = 2 ^ (64 - s) * (lo / 2 ^ (64 - s)) + lo % 2 ^ (64 - s) := (Int.mul_ediv_add_emod lo (2 ^ (64 - s))).symm
    have b : lo % 2 ^ (64 - s) < 2 ^ (64 - s) := Int.emod_lt_of_pos _ hp2
    have c : 0 ≤ lo % 2 ^ (64 - s) := Int.emod_nonneg _ (Int.ne_of_gt hp2)
    generalize lo / 2 ^ (64 - s) = t at *
    generalize lo % 2 ^ (64 - s) = g at *
    have e : lo * 2 ^ s = t * 18446744073709551616 + g * 2 ^ s := by rw [a, Int.add_mul, Int.mul_comm (2 ^ (64 - s)) t, Int.mul_assoc, hpp]
    have f0 : 0 ≤ g * 2 ^ s := Int.mul_nonneg c (Int.le_of_lt hp)
    have f1 : g * 2 ^ s < 18446744073709551616 := by rw [← hpp]; exact Int.mul_lt_mul_of_pos_right b hp
    generalize g * 2 ^ s = x at *
    generalize lo * 2 ^ s = z at *
    omega
  refine ⟨hi * 2 ^ s + lo / 2 ^ (64 - s), (lo * 2 ^ s) % 18446744073709551616, by rw [e1, e2, e4], e3, by omega, by omega, by omega, by omega, ?_⟩
  rw [Int.add_mul, Int.mul_right_comm]
  generalize hi * 2 ^ s = a at *
  generalize lo / 2 ^ (64 - s) = b at *
  generalize lo * 2 ^ s = c at *
  omega
theorem div64 (hi lo y : Int) (h0 : 0 ≤ hi) (h1 : hi < y) (l0 : 0 ≤ lo) (l1 : lo < 18446744073709551616) (y1 : y < 18446744073709551616) :
    Ev (fun k => bits_Div64.f k hi lo y) ((hi * 18446744073709551616 + lo) / y, (hi * 18446744073709551616 + lo) % y) := by
  unfold bits_Div64.f
  by_cases hz : hi = 0
  · refine Ev_all_k fun k => ?_
    rw [if_neg (by omega), if_neg (by omega), if_pos hz, hz, Int.zero_mul, Int.zero_add, Int.tdiv_eq_ediv_of_nonneg l0, Int.tmod_eq_emod_of_nonneg l0]
    have a : 0 ≤ lo / y := Int.ediv_nonneg l0 (by omega)
    have b : lo / y ≤ lo := Int.ediv_le_self _ l0
    rw [u64w_id _ a (by omega)]
  · obtain ⟨s, hs, ya, yb, hE⟩ := zeros64 y (by omega) y1
    obtain ⟨n, m, en, em, n0, n1, m0, m1, eU⟩ := parts hi lo y s hs h0 h1 l0 l1 yb
    have hp : (0 : Int) < 2 ^ s := Int.pow_pos (by decide)
    have ey : shl .u64 y (s : Int) = y * 2 ^ s := by
      unfold shl
      rw [Int.toNat_natCast, Nat.min_eq_left (by show s ≤ 64; omega)]
      exact u64w_id _ (by omega) yb
    have ws : IntKind.u64.wrap (s : Int) = s := u64w_id _ (by omega) (by omega)
    have ws2 : IntKind.u64.wrap (64 - (s : Int)) = 64 - s := u64w_id _ (by omega) (by omega)
    generalize hY : y * 2 ^ s = Y at *
    have hy : Y = Y / 4294967296 * 4294967296 + Y % 4294967296 := by omega
    have hH : Halves (Y / 4294967296) (Y % 4294967296) n (m / 4294967296) := ⟨by omega, by omega, by omega, by omega, by omega, by omega, n0, by omega⟩
    obtain ⟨tr, tr0, tr1⟩ := trial_first hH
    obtain ⟨Q1, Q0, a0, a1, b0, b1, r0, r1, hL⟩ := l0_ok Y _ _ n (m / 4294967296) (m % 4294967296) s hy hH (by omega) (by omega) 2 _ _ tr (by have := tr.r0; omega)
    have hd : Int.tdiv n (Y / 4294967296) = n / (Y / 4294967296) := Int.tdiv_eq_ediv_of_nonneg n0
    have hdr : 0 ≤ n / (Y / 4294967296) := tr.q0
    have hdr1 : n / (Y / 4294967296) ≤ 4294967297 := tr.q1
    have key : ∀ k, bits_Div64.f (k + 1) hi lo y = bits_Div64.l0 (k + 1) Y (s : Int) (Y / 4294967296) (Y % 4294967296) n (m / 4294967296) (m % 4294967296) (n / (Y / 4294967296)) (n - n / (Y / 4294967296) * (Y / 4294967296)) := by
      intro k
      unfold bits_Div64.f
      rw [if_neg (by omega), if_neg (by omega), if_neg hz, hE, Option.bind_some, ws, ws2, if_pos (by omega), if_pos (by omega), ey, if_neg (by omega), en, em, and32 Y (by omega) yb, and32 m m0 m1, hd, u64w_id (n / (Y / 4294967296)) hdr (by omega),
        u64w_id (n / (Y / 4294967296) * (Y / 4294967296)) tr0 (by omega), u64w_id (n - n / (Y / 4294967296) * (Y / 4294967296)) (by omega) (by omega)]
    have fin : (hi * 18446744073709551616 + lo) / y = Q1 * 4294967296 + Q0 ∧ (hi * 18446744073709551616 + lo) % y = shr .u64 ((n * 4294967296 + m / 4294967296 - Q1 * Y) * 4294967296 + m % 4294967296 - Q0 * Y) (s : Int) := by
      have e : (hi * 18446744073709551616 + lo) * 2 ^ s = (Q1 * 4294967296 + Q0) * Y + ((n * 4294967296 + m / 4294967296 - Q1 * Y) * 4294967296 + m % 4294967296 - Q0 * Y) := by
        rw [eU, Int.add_mul, Int.mul_right_comm]
        generalize Q1 * Y = a at *
        generalize Q0 * Y = b at *
        omega
      generalize (n * 4294967296 + m / 4294967296 - Q1 * Y) * 4294967296 + m % 4294967296 - Q0 * Y = R at *
      generalize Q1 * 4294967296 + Q0 = Q at *
      generalize hi * 18446744073709551616 + lo = N at *
      have e2 : R = (N - Q * y) * 2 ^ s := by
        rw [Int.sub_mul, e, ← hY, Int.mul_assoc]
        omega
      have e3 : shr .u64 R (s : Int) = N - Q * y := by
        unfold shr
        rw [Int.toNat_natCast, Nat.min_eq_left (by show s ≤ 64; omega), e2, Int.mul_ediv_cancel _ (Int.ne_of_gt hp)]
      have f0 : 0 ≤ N - Q * y := by
        rcases (by omega : 0 ≤ N - Q * y ∨ N - Q * y < 0) with g | g
        · exact g
        · have := Int.mul_neg_of_neg_of_pos g hp
          omega
      have f1 : N - Q * y < y := by
        rcases (by omega : N - Q * y < y ∨ y ≤ N - Q * y) with g | g
        · exact g
        · have := Int.mul_le_mul_of_nonneg_right g (Int.le_of_lt hp)
          omega
      rw [e3]
      have hN : N = (N - Q * y) + y * Q := by rw [Int.mul_comm y Q]; omega
      generalize N - Q * y = z at *
      subst hN
      rw [Int.add_mul_ediv_left _ _ (by omega), Int.ediv_eq_zero_of_lt f0 f1, Int.zero_add, Int.add_mul_emod_self_left, Int.emod_eq_of_lt f0 f1]
      exact ⟨rfl, rfl⟩
    rw [fin.1, fin.2]
    obtain ⟨K, hK⟩ := hL
    refine ⟨K + 1, fun k hk => ?_⟩
    obtain ⟨j, rfl⟩ : ∃ j, k = j + 1 := ⟨k - 1, by omega⟩
    have := key j
    unfold bits_Div64.f at this
    exact this.trans (hK (j + 1) (by omega))
def mdOk (a b c : Int) : Prop := (0 ≤ a ∧ a ≤ 1000000000000000) ∧ (0 ≤ b ∧ b ≤ 1000000000000000) ∧ (1 ≤ c ∧ c ≤ 1000000000000000) ∧ a * b / c ≤ 1000000000000000
instance (a b c : Int) : Decidable (mdOk a b c) := by unfold mdOk; exact inferInstance
def mdR (a b c : Int) : Int × Int × Bool := if mdOk a b c then (a * b / c, a * b % c, true) else (0, 0, false)
theorem md_no {a b c : Int} (h : ¬ mdOk a b c) : mdR a b c = (0, 0, false) := if_neg h
theorem md_yes {a b c : Int} (h : mdOk a b c) : mdR a b c = (a * b / c, a * b % c, true) := if_pos h
theorem gates {ρ : Type} {A B C : Prop} [Decidable A] [Decidable B] [Decidable C] (f : Nat → Bool → Option ρ) (r : ρ) (hb : ¬ (A ∧ B ∧ C) → Ev (fun k => f k true) r) (hg : A → B → C → Ev (fun k => f k false) r) :
    Ev (fun k => if decide A = true then (if decide B = true then f k (!decide C) else f k true) else f k true) r := by
  by_cases ha : A
  · by_cases hb2 : B
    · by_cases hc : C
      · exact Ev.congr (fun k => by rw [if_pos (decide_eq_true ha), if_pos (decide_eq_true hb2), decide_eq_true hc]; rfl) (hg ha hb2 hc)
      · exact Ev.congr (fun k => by rw [if_pos (decide_eq_true ha), if_pos (decide_eq_true hb2), decide_eq_false hc]; rfl) (hb fun h => hc h.2.2)
    · exact Ev.congr (fun k => by rw [if_pos (decide_eq_true ha), if_neg (by rw [decide_eq_false hb2]; decide)]) (hb fun h => hb2 h.2.1)
  · exact Ev.congr (fun k => by rw [if_neg (by rw [decide_eq_false ha]; decide)]) (hb fun h => ha h.1)
theorem mulDiv_i (a b c : Int) : Ev (fun k => impl_MulDiv.f k a b c) (mdR a b c) := by
  unfold impl_MulDiv.f
  simp only [in_i, Option.bind_some]
  have bad : ∀ h : ¬ mdOk a b c, Ev (fun k => impl_MulDiv.j0 k a b c true) (mdR a b c) := fun h => by
    rw [md_no h]
    exact Ev_one fun k => by simp only [impl_MulDiv.j0]; rw [if_pos trivial]
  refine gates (fun k z => impl_MulDiv.j0 k a b c z) _ (fun h => bad fun g => h ⟨g.1, g.2.1, g.2.2.1⟩) fun ha hb hc => ?_
  · · ·
        obtain ⟨a0, a1⟩ := ha
        obtain ⟨b0, b1⟩ := hb
        obtain ⟨c0, c1⟩ := hc
        have hp0 : 0 ≤ a * b := Int.mul_nonneg a0 b0
        have hp1 : a * b ≤ 1000000000000000 * 1000000000000000 := Int.mul_le_mul a1 b1 b0 (by decide)
        have hm : bits_Mul64.f a b = some (a * b / 18446744073709551616, a * b % 18446744073709551616) := by
          unfold bits_Mul64.f
          rw [mul64 a b a0 (by omega) b0 (by omega), u64w]
        have e : ∀ k, impl_MulDiv.j0 (k + 1) a b c false = if a * b / 18446744073709551616 ≥ c then some (0, 0, false) else (bits_Div64.f k (a * b / 18446744073709551616) (a * b % 18446744073709551616) c).bind fun z => (if z.1 > 1000000000000000 then (some (0, 0, false)) else (some (wrap64 z.1, wrap64 z.2, true))) := by
          intro k
          simp only [impl_MulDiv.j0]
          rw [if_neg (by decide), u64w_id a a0 (by omega), u64w_id b b0 (by omega), u64w_id c (by omega) (by omega), hm, Option.bind_some]
        have hq0 : 0 ≤ a * b / c := Int.ediv_nonneg hp0 (by omega)
        have hr0 : 0 ≤ a * b % c := Int.emod_nonneg _ (by omega)
        have hr1 : a * b % c < c := Int.emod_lt_of_pos _ (by omega)
        refine Ev.step e ?_
        by_cases hh : a * b / 18446744073709551616 ≥ c
        · have hno : ¬ mdOk a b c := fun h => by
            have h4 := h.2.2.2
            have h5 : 18446744073709551616 ≤ a * b / c := by
              rw [Int.le_ediv_iff_mul_le (by omega)]
              omega
            omega
          rw [md_no hno]
          exact Ev_all_k fun k => if_pos hh
        · refine Ev.congr (fun k => if_neg hh) ?_
          have hd := div64 (a * b / 18446744073709551616) (a * b % 18446744073709551616) c (by omega) (by omega) (by omega) (by omega) (by omega)
          rw [show a * b / 18446744073709551616 * 18446744073709551616 + a * b % 18446744073709551616 = a * b by omega] at hd
          refine Ev_bind hd (Ev_all_k fun k => ?_)
          by_cases hq : a * b / c ≤ 1000000000000000
          · rw [md_yes ⟨⟨a0, a1⟩, ⟨b0, b1⟩, ⟨c0, c1⟩, hq⟩, if_neg (by show ¬ a * b / c > _; omega)]
            show some (wrap64 (a * b / c), wrap64 (a * b % c), true) = _
            rw [w64_id _ (by omega) (by omega), w64_id _ (by omega) (by omega)]
          · rw [md_no (fun h => hq h.2.2.2), if_pos (by show a * b / c > _; omega)]
theorem some_s (x lo : Int) : spec_l1Some.f x lo = some (decide (lo ≤ x ∧ x ≤ 1000000000000000)) := by
  unfold spec_l1Some.f
  rw [in_s]
  rfl
theorem bit_is (a : Int) (i : Nat) (h0 : 0 ≤ a) (h1 : a ≤ 1000000000000000) (hi : i ≤ 63) : Go.bits .and .i64 (shr .i64 a (i : Int)) 1 = a / 2 ^ i % 2 := by
  have e : shr .i64 a (i : Int) = a / 2 ^ i := by
    unfold shr
    rw [Int.toNat_natCast, Nat.min_eq_left (by show i ≤ 64; omega)]
  rw [e]
  have hp : (0 : Int) < 2 ^ i := Int.pow_pos (by decide)
  have d0 : 0 ≤ a / 2 ^ i := Int.ediv_nonneg h0 (Int.le_of_lt hp)
  have d1 : a / 2 ^ i ≤ a := Int.ediv_le_self _ h0
  exact bits_mask .i64 63 (by decide) (fun n a b => by rw [IntKind.wrap_i64]; have : (2 : Int) ^ 63 = 9223372036854775808 := by decide
                                                       omega) 1 (by decide) _ d0 (by have : (2 : Int) ^ 63 = 9223372036854775808 := by decide
                                                                                     omega)
theorem sl0 (a b c : Int) (a0 : 0 ≤ a) (a1 : a ≤ 1000000000000000) (b0 : 0 ≤ b) (b1 : b ≤ 1000000000000000) (c0 : 1 ≤ c) (c1 : c ≤ 1000000000000000) :
    ∀ (m : Nat) (q r : Int), m ≤ 51 → 0 ≤ r → r < c → 0 ≤ q → q ≤ 1000000000000000 → q * c + r = a / 2 ^ m * b →
      Ev (fun k => spec_MulDiv.l0 k a b c q r ((m : Int) - 1)) (if a * b / c ≤ 1000000000000000 then (a * b / c, a * b % c, true) else (0, 0, false)) := by
  intro m
  induction m with
  | zero =>
    intro q r _ r0 r1 q0 q1 e
    rw [show a / 2 ^ 0 = a by rw [Int.pow_zero, Int.ediv_one]] at e
    have hN : a * b = r + c * q := by rw [← e, Int.mul_comm c q]; omega
    have hd : a * b / c = q := by rw [hN, Int.add_mul_ediv_left _ _ (by omega), Int.ediv_eq_zero_of_lt r0 r1, Int.zero_add]
    have hm : a * b % c = r := by rw [hN, Int.add_mul_emod_self_left, Int.emod_eq_of_lt r0 r1]
    rw [hd, hm, if_pos q1]
    exact Ev_one fun k => by simp only [spec_MulDiv.l0]; rw [if_neg (by omega)]
  | succ m ih =>
    intro q r hm r0 r1 q0 q1 e
    have hp : (0 : Int) < 2 ^ m := Int.pow_pos (by decide)
    have hA : a / 2 ^ (m + 1) = a / 2 ^ m / 2 := by rw [Int.pow_succ, Int.ediv_ediv_of_nonneg (Int.le_of_lt hp)]
    have d0 : 0 ≤ a / 2 ^ m := Int.ediv_nonneg a0 (Int.le_of_lt hp)
    have d1 : a / 2 ^ m ≤ a := Int.ediv_le_self _ a0
    rw [hA] at e
    have hbit := bit_is a m a0 a1 (by omega)
    -- too great a quotient stays too great
    have big : ∀ q' r' : Int, q' * c + r' = a / 2 ^ m * b → 0 ≤ r' → 1000000000000000 < q' → ¬ a * b / c ≤ 1000000000000000 := by
      intro q' r' e' r0' hq' hle
      have h1 : a / 2 ^ m * b ≤ a * b := Int.mul_le_mul_of_nonneg_right d1 b0
      have h2 : q' ≤ a * b / c := by
        rw [Int.le_ediv_iff_mul_le (by omega)]
        omega
      omega
    -- the doubled pair
    obtain ⟨q2, r2, hw, z0, z1, y0, y1, e2⟩ : ∃ q2 r2 : Int, (∀ k, spec_MulDiv.l0 (k + 1) a b c q r ((m + 1 : Nat) - 1 : Int) = spec_MulDiv.j2 k a b c q2 r2 (m : Int)) ∧ 0 ≤ r2 ∧ r2 < c ∧ 0 ≤ q2 ∧ q2 ≤ 2000000000000001 ∧ q2 * c + r2 = 2 * (a / 2 ^ m / 2 * b) := by
      have w1 : wrap64 (2 * r) = 2 * r := w64_id _ (by omega) (by omega)
      have w2 : wrap64 (2 * q) = 2 * q := w64_id _ (by omega) (by omega)
      have hi : (((m + 1 : Nat) : Int) - 1) = (m : Int) := by omega
      by_cases h : 2 * r ≥ c
      · refine ⟨2 * q + 1, 2 * r - c, fun k => ?_, by omega, by omega, by omega, by omega, ?_⟩
        · rw [hi]
          simp only [spec_MulDiv.l0]
          rw [if_pos (by omega), w1, if_pos h, w2, w64_id (2 * q + 1) (by omega) (by omega), w64_id (2 * r - c) (by omega) (by omega)]
        · rw [Int.add_mul, Int.one_mul, Int.mul_assoc, ← e]
          omega
      · refine ⟨2 * q, 2 * r, fun k => ?_, by omega, by omega, by omega, by omega, ?_⟩
        · rw [hi]
          simp only [spec_MulDiv.l0]
          rw [if_pos (by omega), w1, if_neg h, w2]
        · rw [Int.mul_assoc, ← e]
          omega
    refine Ev.step hw ?_
    have hodd : a / 2 ^ m * b = 2 * (a / 2 ^ m / 2 * b) + a / 2 ^ m % 2 * b := by
      have : a / 2 ^ m = 2 * (a / 2 ^ m / 2) + a / 2 ^ m % 2 := by omega
      generalize a / 2 ^ m = x at *
      conv => lhs; rw [this, Int.add_mul, Int.mul_assoc]
    have go : ∀ q3 r3 : Int, 0 ≤ r3 → r3 < c → 0 ≤ q3 → q3 * c + r3 = a / 2 ^ m * b → (f : Nat → Option (Int × Int × Bool)) → (∀ k, f k = if q3 > 1000000000000000 then some (0, 0, false) else spec_MulDiv.l0 k a b c q3 r3 ((m : Int) - 1)) → Ev f (if a * b / c ≤ 1000000000000000 then (a * b / c, a * b % c, true) else (0, 0, false)) := by
      intro q3 r3 x0 x1 x2 e3 f hf
      by_cases hq : q3 > 1000000000000000
      · rw [if_neg (big q3 r3 e3 x0 (by omega))]
        exact Ev_all_k fun k => by rw [hf, if_pos hq]
      · exact Ev.congr (fun k => by rw [hf, if_neg hq]) (ih q3 r3 (by omega) x0 x1 x2 (by omega) e3)
    have wm : wrap64 ((m : Int) - 1) = (m : Int) - 1 := w64_id _ (by omega) (by omega)
    by_cases hb : a / 2 ^ m % 2 = 1
    · have t0 : 0 ≤ b / c := Int.ediv_nonneg b0 (by omega)
      have t1 : b / c ≤ b := Int.ediv_le_self _ b0
      have t2 : 0 ≤ b % c := Int.emod_nonneg _ (by omega)
      have t3 : b % c < c := Int.emod_lt_of_pos _ (by omega)
      have t4 : b / c * c + b % c = b := by have := Int.mul_ediv_add_emod b c; rw [Int.mul_comm]; exact this
      have td : Int.tdiv b c = b / c := Int.tdiv_eq_ediv_of_nonneg b0
      have tm : Int.tmod b c = b % c := Int.tmod_eq_emod_of_nonneg b0
      rw [hb, Int.one_mul] at hodd
      have w1 : wrap64 (r2 + b % c) = r2 + b % c := w64_id _ (by omega) (by omega)
      have w2 : wrap64 (b / c) = b / c := w64_id _ (by omega) (by omega)
      have w3 : wrap64 (q2 + b / c) = q2 + b / c := w64_id _ (by omega) (by omega)
      have w4 : wrap64 (q2 + b / c + 1) = q2 + b / c + 1 := w64_id _ (by omega) (by omega)
      by_cases h : r2 + b % c ≥ c
      · have w5 : wrap64 (r2 + b % c - c) = r2 + b % c - c := w64_id _ (by omega) (by omega)
        refine Ev.step (fun k => rfl) (go (q2 + b / c + 1) (r2 + b % c - c) (by omega) (by omega) (by omega) ?_ _ fun k => ?_)
        · rw [Int.add_mul, Int.add_mul, Int.one_mul, hodd, ← e2]
          omega
        · simp only [spec_MulDiv.j2]
          rw [if_pos (by omega), hbit, if_pos hb, if_neg (by omega), tm, td, w1, if_pos h, w2, w3, w4, w5, wm]
      · refine Ev.step (fun k => rfl) (go (q2 + b / c) (r2 + b % c) (by omega) (by omega) (by omega) ?_ _ fun k => ?_)
        · rw [Int.add_mul, hodd, ← e2]
          omega
        · simp only [spec_MulDiv.j2]
          rw [if_pos (by omega), hbit, if_pos hb, if_neg (by omega), tm, td, w1, if_neg h, w2, w3, wm]
    · have hb0 : a / 2 ^ m % 2 = 0 := by omega
      rw [hb0, Int.zero_mul, Int.add_zero] at hodd
      refine Ev.step (fun k => rfl) (go q2 r2 z0 z1 y0 (by rw [e2, hodd]) _ fun k => ?_)
      simp only [spec_MulDiv.j2]
      rw [if_pos (by omega), hbit, if_neg hb, wm]
theorem mulDiv_s (a b c : Int) : Ev (fun k => spec_MulDiv.f k a b c) (mdR a b c) := by
  unfold spec_MulDiv.f
  simp only [some_s, Option.bind_some]
  have bad : ∀ h : ¬ mdOk a b c, Ev (fun k => spec_MulDiv.j0 k a b c true) (mdR a b c) := fun h => by
    rw [md_no h]
    exact Ev_one fun k => by simp only [spec_MulDiv.j0]; rw [if_pos trivial]
  refine gates (fun k z => spec_MulDiv.j0 k a b c z) _ (fun h => bad fun g => h ⟨g.1, g.2.1, g.2.2.1⟩) fun ha hb hc => ?_
  · · ·
        refine Ev.step (f := fun k => spec_MulDiv.l0 k a b c 0 0 50) (fun k => by simp only [spec_MulDiv.j0]; rw [if_neg (by decide)]) ?_
        have h := sl0 a b c ha.1 ha.2 hb.1 hb.2 hc.1 hc.2 51 0 0 (Nat.le_refl _) (by omega) (by omega) (by omega) (by omega) (by
          rw [show a / 2 ^ 51 = 0 from Int.ediv_eq_zero_of_lt ha.1 (by have : (2 : Int) ^ 51 = 2251799813685248 := by decide
                                                                       omega)]
          simp)
        have e : mdR a b c = if a * b / c ≤ 1000000000000000 then (a * b / c, a * b % c, true) else (0, 0, false) := by
          by_cases hq : a * b / c ≤ 1000000000000000
          · rw [md_yes ⟨ha, hb, hc, hq⟩, if_pos hq]
          · rw [md_no (fun h => hq h.2.2.2), if_neg hq]
        rw [e]
        exact h
end Go.Proofs.Ytomanpmffjkkgaa.A2
