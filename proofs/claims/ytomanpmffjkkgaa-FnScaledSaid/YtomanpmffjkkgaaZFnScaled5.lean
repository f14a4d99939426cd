/- What the law FnScaled leans on, cut out of this repo's own texts by a program of this repo: plain functions, the walks that tie the Go calls to them, the law over lists and numbers, and the row. -/
import Derived.Test.YtomanpmffjkkgaaZFnScaled4
import Derived.Shelf.SlSortCmp.WholeK
import Derived.Shelf.SlSortCmp.NoneTotal
import Derived.Shelf.SlicesQ.Reverse
import Derived.Ground.SlsfProg
import Derived.Ground.SlgnProg
import Derived.Test.YtomanpmffjkkgaaProg
namespace Go.Proofs
open Go.Shelf
def Try.sortLot_ren : Go.Shelf.Ren := ⟨fun | 6 => 88 | 15 => 100 | 14 => 99 | 28 => 114 | 29 => 115 | 20 => 106 | 21 => 107 | 22 => 108 | 23 => 109 | 24 => 110 | 25 => 111 | 26 => 112 | 27 => 113 | 46 => 119 | 47 => 120 | 48 => 121 | 49 => 122 | 50 => 123 | 57 => 127 | n => n, fun | 22 => 25 | 24 => 37 | 25 => 56 | 3 => 3 | 39 => 99 | 0 => 0 | 53 => 119 | 55 => 100 | 4 => 4 | 46 => 112 | 45 => 111 | 50 => 116 | 5 => 5 | 9 => 9 | 66 => 122 | 70 => 126 | 76 => 131 | 77 => 58 | n => n, fun | n => n⟩
theorem Try.sortLot : Go.Proofs.SlLaysF0.n6 Try.prog Try.sortLot_ren := {
  mixed := by kernel_rfl
  f6 := ⟨Try.f88.name, by decide, Try.func88.trans (congrArg some (by kernel_rfl))⟩
  f14 := ⟨Try.f99.name, by decide, Try.func99.trans (congrArg some (by kernel_rfl))⟩
  f15 := Try.func100.trans (congrArg some (by kernel_rfl))
  f20 := ⟨Try.f106.name, by decide, Try.func106.trans (congrArg some (by kernel_rfl))⟩
  f21 := ⟨Try.f107.name, by decide, Try.func107.trans (congrArg some (by kernel_rfl))⟩
  f22 := ⟨Try.f108.name, by decide, Try.func108.trans (congrArg some (by kernel_rfl))⟩
  f23 := ⟨Try.f109.name, by decide, Try.func109.trans (congrArg some (by kernel_rfl))⟩
  f24 := ⟨Try.f110.name, by decide, Try.func110.trans (congrArg some (by kernel_rfl))⟩
  f25 := ⟨Try.f111.name, by decide, Try.func111.trans (congrArg some (by kernel_rfl))⟩
  f26 := ⟨Try.f112.name, by decide, Try.func112.trans (congrArg some (by kernel_rfl))⟩
  f27 := ⟨Try.f113.name, by decide, Try.func113.trans (congrArg some (by kernel_rfl))⟩
  f28 := Try.func114.trans (congrArg some (by kernel_rfl))
  f29 := Try.func115.trans (congrArg some (by kernel_rfl))
  f46 := ⟨Try.f119.name, by decide, Try.func119.trans (congrArg some (by kernel_rfl))⟩
  f47 := Try.func120.trans (congrArg some (by kernel_rfl))
  f48 := Try.func121.trans (congrArg some (by kernel_rfl))
  f49 := ⟨Try.f122.name, by decide, Try.func122.trans (congrArg some (by kernel_rfl))⟩
  f50 := ⟨Try.f123.name, by decide, Try.func123.trans (congrArg some (by kernel_rfl))⟩
  f57 := ⟨Try.f127.name, by decide, Try.func127.trans (congrArg some (by kernel_rfl))⟩
  t0 := Try.underlying0
  a0 := Try.isAgg0
  z0 := Try.sizeOf0
  v0 := Try.zeroValue0
  t3 := Try.underlying3
  a3 := Try.isAgg3
  z3 := Try.sizeOf3
  v3 := Try.zeroValue3
  t4 := Try.underlying4
  a4 := Try.isAgg4
  z4 := Try.sizeOf4
  v4 := Try.zeroValue4
  t5 := Try.underlying5
  a5 := Try.isAgg5
  z5 := Try.sizeOf5
  v5 := Try.zeroValue5
  t9 := Try.underlying9
  a9 := Try.isAgg9
  z9 := Try.sizeOf9
  v9 := Try.zeroValue9
  t22 := Try.underlying25
  a22 := Try.isAgg25
  z22 := Try.sizeOf25
  v22 := Try.zeroValue25
  t25 := Try.underlying56
  a25 := Try.isAgg56
  z25 := Try.sizeOf56
  v25 := Try.zeroValue56
  t39 := Try.underlying99
  a39 := Try.isAgg99
  z39 := Try.sizeOf99
  v39 := Try.zeroValue99
  t45 := Try.underlying111
  a45 := Try.isAgg111
  z45 := Try.sizeOf111
  v45 := Try.zeroValue111
  t46 := Try.underlying112
  a46 := Try.isAgg112
  z46 := Try.sizeOf112
  v46 := Try.zeroValue112
  t50 := Try.underlying116
  a50 := Try.isAgg116
  z50 := Try.sizeOf116
  v50 := Try.zeroValue116
  t53 := Try.underlying119
  a53 := Try.isAgg119
  z53 := Try.sizeOf119
  v53 := Try.zeroValue119
  t55 := Try.underlying100
  a55 := Try.isAgg100
  z55 := Try.sizeOf100
  v55 := Try.zeroValue100
  t66 := Try.underlying122
  a66 := Try.isAgg122
  z66 := Try.sizeOf122
  v66 := Try.zeroValue122
  t70 := Try.underlying126
  a70 := Try.isAgg126
  z70 := Try.sizeOf126
  v70 := Try.zeroValue126
  t76 := Try.underlying131
  a76 := Try.isAgg131
  z76 := Try.sizeOf131
  v76 := Try.zeroValue131
  t77 := Try.underlying58
  a77 := Try.isAgg58
  z77 := Try.sizeOf58
  v77 := Try.zeroValue58 }
end Go.Proofs
namespace Go.Proofs.Ytomanpmffjkkgaa.P
open Go.RowKit Go.Proofs.YtomanpmffjkkgaaW.PrintWords Go.Proofs.YtomanpmffjkkgaaW.PrintLast Go.Proofs.YtomanpmffjkkgaaW.PrintMore
attribute [local go_sem] max2_int min2_int max_two min_two max_three min_three max_four min_four   -- for this text's walks alone
set_option linter.unusedVariables false
set_option linter.unusedSimpArgs false
def impl_MulDiv.j0 : Nat → Int → Int → Int → Bool → Option (Int × Int × Bool)
 | 0, _, _, _, _ => none
 | k + 1, x0, x1, x2, x25 => if x25 = true then (some (0, 0, false)) else ((bits_Mul64.f (IntKind.u64.wrap (x0)) (IntKind.u64.wrap (x1))).bind fun bt646 => (if bt646.1 ≥ (IntKind.u64.wrap (x2)) then (some (0, 0, false)) else ((bits_Div64.f k bt646.1 bt646.2 (IntKind.u64.wrap (x2))).bind fun bt648 => (if bt648.1 > 1000000000000000 then (some (0, 0, false)) else (some (wrap64 (bt648.1), wrap64 (bt648.2), true))))))
def impl_MulDiv.f (k : Nat) (a0 : Int) (a1 : Int) (a2 : Int) : Option (Int × Int × Bool) := (impl_in.f a0 0 1000000000000000).bind fun t643 => (if t643 = true then ((impl_in.f a1 0 1000000000000000).bind fun t644 => (if t644 = true then ((impl_in.f a2 1 1000000000000000).bind fun t645 => (impl_MulDiv.j0 k a0 a1 a2 (!t645))) else (impl_MulDiv.j0 k a0 a1 a2 true))) else (impl_MulDiv.j0 k a0 a1 a2 true))
set_option maxHeartbeats 8000000 in
set_option maxRecDepth 100000 in
theorem impl_MulDiv.calls (k : Nat) (a0 : Int) (a1 : Int) (a2 : Int) (r1 : Int) (r2 : Int) (r3 : Bool) (w : World) (h : impl_MulDiv.f k a0 a1 a2 = some (r1, r2, r3)) :
 Calls Try.prog 86 #[.int .i64 a0, .int .i64 a1, .int .i64 a2] w fun e w' => e = .returned (.tuple #[.int .i64 r1, .int .i64 r2, .bool r3]) ∧ Drawn0 w w' := by
 have H : ((impl_in.f a0 0 1000000000000000).bind fun t643 => (if t643 = true then ((impl_in.f a1 0 1000000000000000).bind fun t644 => (if t644 = true then ((impl_in.f a2 1 1000000000000000).bind fun t645 => (impl_MulDiv.j0 k a0 a1 a2 (!t645))) else (impl_MulDiv.j0 k a0 a1 a2 true))) else (impl_MulDiv.j0 k a0 a1 a2 true))) = some (r1, r2, r3) := h; clear h; have HC4 := Aside0.mk H; clear H; go_enter Try.func86, Try.ntmps86; go_upto_region 1 with (fail)
 go_cut [25] (fun v25 wc => ∃ (kq : Nat) (x25_3 : Bool), v25 = .bool x25_3 ∧ Aside0 (impl_MulDiv.j0 kq a0 a1 a2 x25_3 = some (r1, r2, r3)) ∧ Aside0 (kq ≤ k) ∧ Drawn0 w wc)
 case first =>
  have H := HC4.out; clear HC4; replace H := Option.bind_eq_some_iff.mp H; obtain ⟨t643, A50, H⟩ := H; have A5 := Aside0.mk A50; clear A50
  by_cases c6 : t643 = true
  ·
   subst c6; replace H := Eq.trans (if_pos rfl).symm H; replace H := Option.bind_eq_some_iff.mp H; obtain ⟨t644, A70, H⟩ := H; have A7 := Aside0.mk A70; clear A70
   by_cases c8 : t644 = true
   ·
    subst c8; replace H := Eq.trans (if_pos rfl).symm H; replace H := Option.bind_eq_some_iff.mp H; obtain ⟨t645, A90, H⟩ := H; have A9 := Aside0.mk A90; clear A90; have H' := Aside0.mk H; clear H; go_wp2_with (first | ((with_reducible refine gate_callee (f := 65) rfl ?_); refine goesL_ (some 14) rfl rfl Try.func65 kr_ rfl #[.int .i64 a0, .int .i64 0, .int .i64 1000000000000000] rfl (bc_) ?_; (with_reducible refine (impl_in.calls a0 0 1000000000000000 true _ A5.out).mono ?_); rintro e w' ⟨rfl, ⟨nd, rfl⟩⟩; refine ⟨_, rfl, ?_⟩) | (go_at_call 65; (with_reducible refine (impl_in.calls a1 0 1000000000000000 true _ A7.out).mono ?_); rintro e w' ⟨rfl, ⟨nd, rfl⟩⟩) | (go_at_call 65; (with_reducible refine (impl_in.calls a2 1 1000000000000000 t645 _ A9.out).mono ?_); rintro e w' ⟨rfl, ⟨nd, rfl⟩⟩))
    go_meet
    case rel => exact ⟨_, (!t645), (rs_), H', ⟨le_⟩, dr_⟩
   ·
    replace c8 := Bool.eq_false_iff.mpr c8; subst c8; have H' := Aside0.mk (Eq.trans (if_neg nf_).symm H); clear H; go_wp2_with (first | ((with_reducible refine gate_callee (f := 65) rfl ?_); refine goesL_ (some 14) rfl rfl Try.func65 kr_ rfl #[.int .i64 a0, .int .i64 0, .int .i64 1000000000000000] rfl (bc_) ?_; (with_reducible refine (impl_in.calls a0 0 1000000000000000 true _ A5.out).mono ?_); rintro e w' ⟨rfl, ⟨nd, rfl⟩⟩; refine ⟨_, rfl, ?_⟩) | (go_at_call 65; (with_reducible refine (impl_in.calls a1 0 1000000000000000 false _ A7.out).mono ?_); rintro e w' ⟨rfl, ⟨nd, rfl⟩⟩))
    go_meet
    case rel => exact ⟨_, (true), (rs_), H', ⟨le_⟩, dr_⟩
  ·
   replace c6 := Bool.eq_false_iff.mpr c6; subst c6; have H' := Aside0.mk (Eq.trans (if_neg nf_).symm H); clear H; go_wp2_with (first | ((with_reducible refine gate_callee (f := 65) rfl ?_); refine goesL_ (some 14) rfl rfl Try.func65 kr_ rfl #[.int .i64 a0, .int .i64 0, .int .i64 1000000000000000] rfl (bc_) ?_; (with_reducible refine (impl_in.calls a0 0 1000000000000000 false _ A5.out).mono ?_); rintro e w' ⟨rfl, ⟨nd, rfl⟩⟩; refine ⟨_, rfl, ?_⟩))
   go_meet
   case rel => exact ⟨_, (true), (rs_), H', ⟨le_⟩, dr_⟩
 case rest =>
  clear HC4; try clear p2
  try clear c6
  try clear c8
  obtain ⟨kq, x25_3, rfl, HA, HJ3, ⟨mc3, rfl⟩⟩ := hcut
  cases kq with
  | zero => exact absurd HA.out (by simp [impl_MulDiv.j0])
  | succ kj3 =>
   have H := HA.out; clear HA; simp only [impl_MulDiv.j0] at H
   by_cases c10 : x25_3 = true
   ·
    subst c10; replace H := Eq.trans (if_pos rfl).symm H; simp only [Option.some.injEq, Prod.mk.injEq] at H; obtain ⟨rfl, rfl, rfl⟩ := H; go_wp2; go_ret3; exact ⟨rs_, dr_⟩
   ·
    replace c10 := Bool.eq_false_iff.mpr c10; subst c10; replace H := Eq.trans (if_neg nf_).symm H; replace H := Option.bind_eq_some_iff.mp H; obtain ⟨⟨t646, t647⟩, A110, H⟩ := H; replace H : (if t646 ≥ (IntKind.u64.wrap (a2)) then (some (0, 0, false)) else ((bits_Div64.f kj3 t646 t647 (IntKind.u64.wrap (a2))).bind fun bt648 => (if bt648.1 > 1000000000000000 then (some (0, 0, false)) else (some (wrap64 (bt648.1), wrap64 (bt648.2), true))))) = some (r1, r2, r3) := H; have A11 := Aside0.mk A110; clear A110
    by_cases c12 : t646 ≥ (IntKind.u64.wrap (a2))
    ·
     rw [if_pos c12] at H; have c12b0 : decide ((IntKind.u64.wrap (a2)) ≤ t646) = true := decide_eq_true c12; clear c12; simp only [Option.some.injEq, Prod.mk.injEq] at H; obtain ⟨rfl, rfl, rfl⟩ := H; go_wp2_with (first | ((with_reducible refine gate_callee (f := 97) rfl ?_); refine goesL_ (some 31) rfl rfl Try.func97 kr_ rfl #[.int .u64 (IntKind.u64.wrap (a0)), .int .u64 (IntKind.u64.wrap (a1))] rfl (bc_) ?_; (with_reducible refine (bits_Mul64.calls (IntKind.u64.wrap (a0)) (IntKind.u64.wrap (a1)) t646 t647 _ A11.out).mono ?_); rintro e w' ⟨rfl, ⟨nd, rfl⟩⟩; refine ⟨_, rfl, ?_⟩))
     go_ret3; exact ⟨rs_, dr_⟩
    ·
     rw [if_neg c12] at H; have c12b0 : decide ((IntKind.u64.wrap (a2)) ≤ t646) = false := decide_eq_false c12; clear c12; replace H := Option.bind_eq_some_iff.mp H; obtain ⟨⟨t648, t649⟩, A130, H⟩ := H; replace H : (if t648 > 1000000000000000 then (some (0, 0, false)) else (some (wrap64 (t648), wrap64 (t649), true))) = some (r1, r2, r3) := H; have A13 := Aside0.mk A130; clear A130
     by_cases c14 : t648 > 1000000000000000
     ·
      rw [if_pos c14] at H; have c14b0 : decide (1000000000000000 < t648) = true := decide_eq_true c14; clear c14; simp only [Option.some.injEq, Prod.mk.injEq] at H; obtain ⟨rfl, rfl, rfl⟩ := H; go_wp2_with (first | ((with_reducible refine gate_callee (f := 97) rfl ?_); refine goesL_ (some 31) rfl rfl Try.func97 kr_ rfl #[.int .u64 (IntKind.u64.wrap (a0)), .int .u64 (IntKind.u64.wrap (a1))] rfl (bc_) ?_; (with_reducible refine (bits_Mul64.calls (IntKind.u64.wrap (a0)) (IntKind.u64.wrap (a1)) t646 t647 _ A11.out).mono ?_); rintro e w' ⟨rfl, ⟨nd, rfl⟩⟩; refine ⟨_, rfl, ?_⟩) | ((with_reducible refine gate_callee (f := 98) rfl ?_); refine goesL_ (some 43) rfl rfl Try.func98 kr_ rfl #[.int .u64 t646, .int .u64 t647, .int .u64 (IntKind.u64.wrap (a2))] rfl (bc_) ?_; (with_reducible refine (bits_Div64.calls kj3 t646 t647 (IntKind.u64.wrap (a2)) t648 t649 _ A13.out).mono ?_); rintro e w' ⟨rfl, ⟨nd, rfl⟩⟩; refine ⟨_, rfl, ?_⟩))
      go_ret3; exact ⟨rs_, dr_⟩
     ·
      rw [if_neg c14] at H; have c14b0 : decide (1000000000000000 < t648) = false := decide_eq_false c14; clear c14; simp only [Option.some.injEq, Prod.mk.injEq] at H; obtain ⟨rfl, rfl, rfl⟩ := H; go_wp2_with (first | ((with_reducible refine gate_callee (f := 97) rfl ?_); refine goesL_ (some 31) rfl rfl Try.func97 kr_ rfl #[.int .u64 (IntKind.u64.wrap (a0)), .int .u64 (IntKind.u64.wrap (a1))] rfl (bc_) ?_; (with_reducible refine (bits_Mul64.calls (IntKind.u64.wrap (a0)) (IntKind.u64.wrap (a1)) t646 t647 _ A11.out).mono ?_); rintro e w' ⟨rfl, ⟨nd, rfl⟩⟩; refine ⟨_, rfl, ?_⟩) | ((with_reducible refine gate_callee (f := 98) rfl ?_); refine goesL_ (some 43) rfl rfl Try.func98 kr_ rfl #[.int .u64 t646, .int .u64 t647, .int .u64 (IntKind.u64.wrap (a2))] rfl (bc_) ?_; (with_reducible refine (bits_Div64.calls kj3 t646 t647 (IntKind.u64.wrap (a2)) t648 t649 _ A13.out).mono ?_); rintro e w' ⟨rfl, ⟨nd, rfl⟩⟩; refine ⟨_, rfl, ?_⟩))
      go_ret3; exact ⟨rs_, dr_⟩
instance impl_Lot_67.inh : Inhabited (S37) := ⟨z37⟩
instance : Inhabited (S37) := ⟨z37⟩
def impl_withLots.enc (x : S37) : List Value := [.int .i64 x.f0, .int .i64 x.f1, .int .i64 x.f2, .int .i64 x.f3, .int .i64 x.f4]
def impl_withLots.rest (l : List (S37)) (a b : Int) : List (S37) := l.filter fun x => !decide (x.f0 = a ∧ x.f1 = b)
def impl_withLots.srt (l : List (S37)) : List (S37) := l.mergeSort fun x y => !decide (impl_LotsOk.cmp y x < 0)
def impl_withLots.uniq (l : List (S37)) : Prop := ∀ x ∈ l, ∀ y ∈ l, x.f0 = y.f0 ∧ x.f1 = y.f1 ∧ x.f2 = y.f2 → x.f3 = y.f3 ∧ x.f4 = y.f4
instance (l : List (S37)) : Decidable (impl_withLots.uniq l) := by unfold impl_withLots.uniq; exact inferInstance
def impl_withLots.f (l0 : List (S37)) (a1 a2 : Int) (l3 : List (S37)) : Option (List (S37)) := if l0.length < 1048577 ∧ l3.length < 1048577 ∧ impl_withLots.uniq (impl_withLots.rest l0 a1 a2 ++ l3) then some (impl_withLots.srt (impl_withLots.rest l0 a1 a2 ++ l3)) else none
theorem impl_withLots.cmp_iff (x y : S37) : impl_LotsOk.cmp x y < 0 ↔ (x.f0 < y.f0 ∨ (x.f0 = y.f0 ∧ (x.f1 < y.f1 ∨ (x.f1 = y.f1 ∧ x.f2 < y.f2)))) := by
 unfold impl_LotsOk.cmp
 by_cases h0 : x.f0 < y.f0
 ·
  rw [if_pos h0]; omega
 ·
  rw [if_neg h0]
  by_cases h1 : y.f0 < x.f0
  ·
   rw [if_pos h1]; omega
  ·
   rw [if_neg h1]
   by_cases h2 : x.f1 < y.f1
   ·
    rw [if_pos h2]; omega
   ·
    rw [if_neg h2]
    by_cases h3 : y.f1 < x.f1
    ·
     rw [if_pos h3]; omega
    ·
     rw [if_neg h3]
     by_cases h4 : x.f2 < y.f2
     ·
      rw [if_pos h4]; omega
     ·
      rw [if_neg h4]
      by_cases h5 : y.f2 < x.f2
      ·
       rw [if_pos h5]; omega
      ·
       rw [if_neg h5]; omega
theorem impl_withLots.lt_ (x y : S37) : ltOf impl_LotsOk.cmp x y = decide (x.f0 < y.f0 ∨ (x.f0 = y.f0 ∧ (x.f1 < y.f1 ∨ (x.f1 = y.f1 ∧ x.f2 < y.f2)))) := by
 unfold ltOf
 rw [Bool.eq_iff_iff, decide_eq_true_iff, decide_eq_true_iff]
 exact impl_withLots.cmp_iff x y
theorem impl_withLots.swo : Sort.SWO (ltOf impl_LotsOk.cmp) where
 irrefl x := by rw [impl_withLots.lt_, decide_eq_false_iff_not]; omega
 trans x y z h1 h2 := by rw [impl_withLots.lt_, decide_eq_true_iff] at *; omega
 ntrans x y z h1 h2 := by rw [impl_withLots.lt_, decide_eq_false_iff_not] at *; omega
set_option maxHeartbeats 8000000 in
set_option maxRecDepth 100000 in
theorem impl_withLots.bef (x y : S37) (W : World) : Calls Try.prog 43 #[.agg #[.int .i64 x.f0, .int .i64 x.f1, .int .i64 x.f2, .int .i64 x.f3, .int .i64 x.f4], .agg #[.int .i64 y.f0, .int .i64 y.f1, .int .i64 y.f2, .int .i64 y.f3, .int .i64 y.f4]] W fun e w' => e = .returned (.int .i64 (impl_LotsOk.cmp x y)) ∧ ∃ q os', w' = Sort.grow (W.drewN q) os' := by
 have H0 := impl_LotsOk.cmp_ x y; unfold impl_lotBefore.f at H0
 replace H0 := Option.bind_eq_some_iff.mp H0; obtain ⟨t, ht, H0⟩ := H0; have HT := Aside0.mk ht; clear ht; generalize impl_LotsOk.cmp x y = r at H0 ⊢
 by_cases h0 : t = 0
 ·
  rw [if_pos h0] at H0; subst h0
  by_cases h1 : x.f2 < y.f2
  ·
   rw [if_pos h1] at H0; obtain rfl := Option.some.inj H0; have c1 : decide (x.f2 < y.f2) = true := decide_eq_true h1; clear H0 h1; go_enter Try.func43, Try.ntmps43; go_wp2_with (go_at_call 77; refine (impl_byBoth.calls 1 _ _ _ _ _ _ HT.out).mono ?_; rintro e w' ⟨rfl, ⟨nd, rfl⟩⟩)
   go_ret; exact ⟨rs_, _, _, SO.alloc2_grow _ _ _ _⟩
  ·
   rw [if_neg h1] at H0; have c1 : decide (x.f2 < y.f2) = false := decide_eq_false h1
   by_cases h2 : x.f2 > y.f2
   ·
    rw [if_pos h2] at H0; obtain rfl := Option.some.inj H0; have c2 : decide (y.f2 < x.f2) = true := decide_eq_true h2; clear H0 h1 h2; go_enter Try.func43, Try.ntmps43; go_wp2_with (go_at_call 77; refine (impl_byBoth.calls 1 _ _ _ _ _ _ HT.out).mono ?_; rintro e w' ⟨rfl, ⟨nd, rfl⟩⟩)
    go_ret; exact ⟨rs_, _, _, SO.alloc2_grow _ _ _ _⟩
   ·
    rw [if_neg h2] at H0; obtain rfl := Option.some.inj H0; have c2 : decide (y.f2 < x.f2) = false := decide_eq_false h2; clear H0 h1 h2; go_enter Try.func43, Try.ntmps43; go_wp2_with (go_at_call 77; refine (impl_byBoth.calls 1 _ _ _ _ _ _ HT.out).mono ?_; rintro e w' ⟨rfl, ⟨nd, rfl⟩⟩)
    go_ret; exact ⟨rs_, _, _, SO.alloc2_grow _ _ _ _⟩
 ·
  rw [if_neg h0] at H0; obtain rfl := Option.some.inj H0; have c1 : (t != 0) = true := bne_iff_ne.mpr h0; have c2 : (t == 0) = false := beq_eq_false_iff_ne.mpr h0; clear H0 h0; go_enter Try.func43, Try.ntmps43; go_wp2_with (go_at_call 77; refine (impl_byBoth.calls 1 _ _ _ _ _ _ HT.out).mono ?_; rintro e w' ⟨rfl, ⟨nd, rfl⟩⟩)
  go_ret; exact ⟨rs_, _, _, SO.alloc2_grow _ _ _ _⟩
theorem impl_withLots.one (x : S37) : ∀ v ∈ impl_withLots.enc x, v.oneCell' = true := by
 intro v hv
 simp [impl_withLots.enc] at hv
 rcases hv with rfl | rfl | rfl | rfl | rfl <;> rfl
theorem impl_withLots.anti {l : List (S37)} (hu : impl_withLots.uniq l) : ∀ x ∈ l, ∀ y ∈ l, ltOf impl_LotsOk.cmp x y = false → ltOf impl_LotsOk.cmp y x = false → x = y := by
 intro x hx y hy h1 h2
 rw [impl_withLots.lt_, decide_eq_false_iff_not] at h1 h2
 have h3 := hu x hx y hy ⟨by omega, by omega, by omega⟩
 have e0 : x.f0 = y.f0 := by omega
 have e1 : x.f1 = y.f1 := by omega
 have e2 : x.f2 = y.f2 := by omega
 cases x; cases y; simp only at h3 e0 e1 e2
 rw [e0, e1, e2, h3.1, h3.2]
set_option maxHeartbeats 4000000 in
theorem impl_withLots.sort_ (A : Option Addr) (c base : Nat) (ok : Nat → Prop) (xs : List (S37)) (w : World) (ho : Kd.R k37 37 w base ok (.slice A xs.length c) xs) (hl0 : xs.length < 4611686018427387904) (hu : impl_withLots.uniq xs) :
 Calls Try.prog 88 #[.slice A xs.length c, .func (.func 43) #[] #[]] w fun e w' => e = .returned (.tuple #[]) ∧ Kd.R k37 37 w' base ok (.slice A xs.length c) (impl_withLots.srt xs) ∧ w.grownBy w' (Value.slice A xs.length c).ownBlock := by
 rcases IN.R_cases ho with ⟨hv, hx⟩ | ⟨g, c', hv⟩
 ·
  subst hx; have hcon := AnyF.slices_SortFunc_none Try.sortLot A c (.func (.func 43) #[] #[]) w; change Calls Try.prog 88 _ _ _ at hcon
  refine hcon.mono ?_
  rintro e w' ⟨rfl, rfl⟩; exact ⟨rfl, by simpa [impl_withLots.srt] using ho, World.grownBy.refl _ _⟩
 ·
  injection hv with hA hn hc; subst hA; subst hc; obtain ⟨n1, n2, n3, n4, n5, _⟩ := IN.R_raw delf37_flat ho; have hraw : DG.Raw impl_withLots.enc 5 37 c g w xs := DG.Raw.of_R delf37_flat ho; have hk : ∀ x : S37, (impl_withLots.enc x).length = 5 := fun _ => rfl; have eg : ∀ args w, (callFunc 43 args).run Try.prog w = .ok (.enter 43 args) w := Go.Proofs.enters_of Try.func43 kr_ rfl; have hcon := AnyQ.slices_SortFunc Try.sortLot 5 Try.isAgg37 Try.sizeOf37 impl_withLots.enc hk impl_withLots.one impl_LotsOk.cmp impl_withLots.swo 43 #[] g 0 c xs.toArray w eg (fun _ _ _ _ x y => impl_withLots.bef x y _) (SO.Raw.holds hraw hk) hraw.lt (by rw [List.size_toArray]; exact hl0)
  change Calls Try.prog 88 _ _ _ at hcon
  rw [List.size_toArray] at hcon; refine hcon.mono ?_
  rintro e w' ⟨rfl, d', n, os, hp, hs, rfl⟩
  have e1 : d'.toList = impl_withLots.srt xs := by
   have h1 := SO.sorted_one impl_withLots.swo xs.toArray d' (by simpa using impl_withLots.anti hu) (by simpa using hp) (by simpa using hs)
   exact h1
  have e2 : d' = (impl_withLots.srt xs).toArray := by rw [← e1]
  have hl : (impl_withLots.srt xs).length = xs.length := List.length_mergeSort _; rw [e2]
  have hraw2 := SO.Raw.sorted hraw hk hl n os; have hR := hraw2.to_R (d := k37) delf37_flat rfl n4 n5 (by rw [hl]; exact n2) n3
  rw [hl] at hR; exact ⟨rfl, hR, SO.grownBy_sorted _⟩
set_option maxHeartbeats 8000000 in
set_option maxRecDepth 100000 in
theorem impl_withLots.clo (B1 B2 : Nat) (a1 a2 : Int) (x : S37) (W : World) (h1 : W.cell? ⟨B1, 0, none⟩ = some (.int .i64 a1)) (h2 : W.cell? ⟨B2, 0, none⟩ = some (.int .i64 a2)) :
 Calls Try.prog 87 #[.agg #[.int .i64 x.f0, .int .i64 x.f1, .int .i64 x.f2, .int .i64 x.f3, .int .i64 x.f4], .pointer (some ⟨B1, 0, none⟩), .pointer (some ⟨B2, 0, none⟩)] W fun e W' => e = .returned (.bool (decide (x.f0 = a1 ∧ x.f1 = a2))) ∧ Below W.heap.size W W' := by
 have HB := Aside0.mk (Below.refl W.heap.size W); have HI := Aside0.mk (impl_lotsOf.is_ x a1 a2); obtain ⟨q, hq⟩ : ∃ q, decide (x.f0 = a1 ∧ x.f1 = a2) = q := ⟨_, rfl⟩; rw [hq] at HI ⊢
 clear hq; have HQ := Aside0.mk (show ∀ W2, Below W.heap.size W W2 → Calls Try.prog 81 #[.agg #[.int .i64 x.f0, .int .i64 x.f1, .int .i64 x.f2, .int .i64 x.f3, .int .i64 x.f4], .int .i64 a1, .int .i64 a2] W2 fun e W' => e = .returned (.bool q) ∧ Below W2.heap.size W2 W' from fun W2 _ => impl_isLot.calls _ _ _ _ _ _ _ q W2 HI.out); have g1 := Lib.cell?_alloc_some (.cells #[.int .i64 x.f0, .int .i64 x.f1, .int .i64 x.f2, .int .i64 x.f3, .int .i64 x.f4] 37 (0, 0)) h1; have g2 := Lib.cell?_alloc_some (.cells #[.int .i64 x.f0, .int .i64 x.f1, .int .i64 x.f2, .int .i64 x.f3, .int .i64 x.f4] 37 (0, 0)) h2; clear h1 h2; go_enter Try.func87, Try.ntmps87; go_wp2_with (go_at_call 81; refine (HQ.out _ (below_alloc HB.out _)).mono ?_; rintro e w6 ⟨rfl, hb6⟩; have HB6 := Aside0.mk hb6; clear hb6)
 all_goals
  go_ret; exact ⟨rs_, below_step (below_alloc HB.out _) HB6.out⟩
theorem impl_withLots.predB {B1 B2 : Nat} {a1 a2 : Int} {w : World} (c1 : w.cell? ⟨B1, 0, none⟩ = some (.int .i64 a1)) (c2 : w.cell? ⟨B2, 0, none⟩ = some (.int .i64 a2)) :
 X0.FnB Try.prog 87 #[.pointer (some ⟨B1, 0, none⟩), .pointer (some ⟨B2, 0, none⟩)] w (fun x : S37 => .agg #[.int .i64 x.f0, .int .i64 x.f1, .int .i64 x.f2, .int .i64 x.f3, .int .i64 x.f4]) (fun x => decide (x.f0 = a1 ∧ x.f1 = a2)) :=
 ⟨_, Try.func87, by kernel_rfl, rfl, fun x W hW => impl_withLots.clo B1 B2 a1 a2 x W ((hW.cell (World.block_lt_of_cell? w _ c1)).trans c1) ((hW.cell (World.block_lt_of_cell? w _ c2)).trans c2)⟩
theorem impl_withLots.predG {B1 B2 g : Nat} {a1 a2 : Int} {w : World} (c1 : w.cell? ⟨B1, 0, none⟩ = some (.int .i64 a1)) (c2 : w.cell? ⟨B2, 0, none⟩ = some (.int .i64 a2)) (n1 : B1 < g) (n2 : B2 < g) :
 DG.FnG Try.prog 87 #[.pointer (some ⟨B1, 0, none⟩), .pointer (some ⟨B2, 0, none⟩)] w g (fun x : S37 => .agg #[.int .i64 x.f0, .int .i64 x.f1, .int .i64 x.f2, .int .i64 x.f3, .int .i64 x.f4]) (fun x => decide (x.f0 = a1 ∧ x.f1 = a2)) :=
 ⟨_, Try.func87, by kernel_rfl, rfl, fun x W hW => impl_withLots.clo B1 B2 a1 a2 x W (hW.cell c1 (by simp; omega)) (hW.cell c2 (by simp; omega))⟩
set_option maxHeartbeats 8000000 in
set_option maxRecDepth 100000 in
theorem impl_withLots.calls (A0 : Option Addr) (c0 : Nat) (l0 : List (S37)) (a1 a2 : Int) (A3 : Option Addr) (c3 : Nat) (l3 : List (S37)) (r : List (S37)) (w : World) (hr0 : Kd.C k37 w A0 l0.length l0) (hc0 : l0.length ≤ c0) (hr3 : Kd.C k37 w A3 l3.length l3) (hc3 : l3.length ≤ c3) (h : impl_withLots.f l0 a1 a2 l3 = some r) :
 Calls Try.prog 69 #[.slice A0 l0.length c0, .int .i64 a1, .int .i64 a2, .slice A3 l3.length c3] w fun e w' => ∃ v0_ : Value, e = .returned (v0_) ∧ Kd.R k37 37 w' w.heap.size (fun _ => True) v0_ r ∧ Below w.heap.size w w' := by
 unfold impl_withLots.f at h
 by_cases hh : l0.length < 1048577 ∧ l3.length < 1048577 ∧ impl_withLots.uniq (impl_withLots.rest l0 a1 a2 ++ l3)
 ·
  rw [if_pos hh] at h; obtain rfl := Option.some.inj h; clear h
  have hcl : impl_Lot_55.f l0 = some l0 := by
   unfold impl_Lot_55.f
   rw [Option.bind_some, List.length_nil, if_pos (by omega), List.nil_append]
  have HC := Aside0.mk hcl; have HR0 := Aside0.mk hr0; have HC0 := Aside0.mk hc0; have HR3 := Aside0.mk hr3; have HC3 := Aside0.mk hc3; have HB := Aside0.mk (Below.refl w.heap.size w); have HL := Aside0.mk hh.1
  have HL3 : Aside0 (((impl_withLots.rest l0 a1 a2).length + l3.length) * 40 ≤ 140737488355328) := ⟨by
   have h1 : (impl_withLots.rest l0 a1 a2).length ≤ l0.length := List.length_filter_le _ _; omega⟩
  have HU := Aside0.mk hh.2.2; have HF : Aside0 ((l0.filter fun x => !decide (x.f0 = a1 ∧ x.f1 = a2)) = impl_withLots.rest l0 a1 a2) := ⟨rfl⟩; clear hr0 hc0 hr3 hc3 hcl hh; generalize impl_withLots.rest l0 a1 a2 = l1 at HL3 HU HF ⊢
  have HL2 : Aside0 ((l1 ++ l3).length < 4611686018427387904) := ⟨by have := HL3.out; rw [List.length_append]; omega⟩
  obtain ⟨l2, hl2⟩ : ∃ l2, l1 ++ l3 = l2 := ⟨_, rfl⟩; rw [hl2] at HU HL2 ⊢
  have HE := Aside0.mk hl2; clear hl2; go_enter Try.func69, Try.ntmps69; have hsz := impl_lotsOf.up w (.cells #[.int .i64 a1] 3 (0, 0)) (.cells #[.int .i64 a2] 3 (0, 0))
  go_wp2_with (first | (go_at_call 55; refine (impl_Lot_55.calls A0 c0 l0 l0 _ (Kd.C_alloc (Kd.C_alloc HR0.out _) _) HC0.out HC.out).mono ?_; rintro e w5 ⟨v, rfl, ho, hb⟩; have HO := Aside0.mk ho; have HB5 := Aside0.mk hb; clear ho hb) | (go_at_call 79; refine (DeleteFunc_st37.calls _ _ v l0 87 #[.pointer (some ⟨w.heap.size, 0, none⟩), .pointer (some ⟨w.heap.size + 1, 0, none⟩)] (fun x => decide (x.f0 = a1 ∧ x.f1 = a2)) _ HO.out HL.out (impl_withLots.predB (impl_lotsOf.c1 HB5.out) (impl_lotsOf.c2 HB5.out)) (fun g _ hg => impl_withLots.predG (impl_lotsOf.c1 HB5.out) (impl_lotsOf.c2 HB5.out) (impl_lotsOf.lt1 hg) (impl_lotsOf.lt2 hg))).mono ?_; rintro e w6 ⟨v6, rfl, ho, hg⟩; have hb5 := below_step (below_alloc (below_alloc (Below.refl _ _) _) _) HB5.out; have HB6 := Aside0.mk (hb5.grown hg (below_size hb5) (fun k hk => Nat.le_trans hsz (impl_lotsOf.own HO.out k hk))); rw [HF.out] at ho; have HO6 := Aside0.mk (Kd.R_lower ho hsz); clear ho hg hb5) | ((with_reducible refine gate_builtin (b := .append) (xs := #[.tmp 14, .tmp 15]) rfl ?_); at_builtin; refine Kd.R_append_rows k37 (w0 := w) w.heap.size rfl (.tmp 14) (.tmp 15) 25 37 (.agg #[(.int .i64 0), (.int .i64 0), (.int .i64 0), (.int .i64 0), (.int .i64 0)]) 40 rfl Try.underlying25 info37 rfl (by decide) (by omega) v6 l1 l3 _ _ _ (fun _ => True) (fun _ => False) rfl rfl HO6.out (Kd.C_below HR3.out HB6.out) (fun _ _ h => h) (fun _ h => h.elim) (fun _ _ => trivial) HB6.out (below_size HB6.out) HL3.out ?_; intro v7 w7 ho hb hg hat; rw [HE.out] at ho; obtain ⟨A7, c7, rfl⟩ := Kd.R_slice ho; have HO7 := Aside0.mk ho; have HB7 := Aside0.mk hb; clear ho hb hg hat) | (go_at_call 88; refine (impl_withLots.sort_ A7 c7 _ _ l2 _ HO7.out HL2.out HU.out).mono ?_; rintro e w8 ⟨rfl, ho, hg⟩; have HO8 := Aside0.mk ho; have HG8 := Aside0.mk hg; clear ho hg))
  go_ret; exact ⟨_, rs_, HO8.out, HB7.out.grown HG8.out (below_size HB7.out) (fun k hk => impl_lotsOf.own HO7.out k hk)⟩
 ·
  rw [if_neg hh] at h; cases h
end Go.Proofs.Ytomanpmffjkkgaa.P
namespace Go.Proofs.Ytomanpmffjkkgaa.P
open Go.RowKit Go.Proofs.YtomanpmffjkkgaaW.PrintWords Go.Proofs.YtomanpmffjkkgaaW.PrintLast Go.Proofs.YtomanpmffjkkgaaW.PrintMore
attribute [local go_sem] max2_int min2_int max_two min_two max_three min_three max_four min_four   -- for this text's walks alone
set_option linter.unusedVariables false
set_option linter.unusedSimpArgs false
def spec_l5DrawKey.f (k : Nat) (l0 : List Int) : Option ((List (S37)) × Int × Int) := (spec_l1New.f k l0).bind fun bt745 => ((spec_l5DrawLots.f k bt745.1 bt745.2.1 bt745.2.2).bind fun bt749 => ((spec_l1Below.f bt745.1 bt749.2.1 bt749.2.2 4).bind fun bt754 => ((spec_l1Below.f bt745.1 bt754.2.1 bt754.2.2 2).bind fun bt757 => (some (bt749.1, wrap64 (1 + bt754.1), wrap64 (1 + bt757.1))))))
set_option maxHeartbeats 8000000 in
set_option maxRecDepth 100000 in
theorem spec_l5DrawKey.calls (k : Nat) (A0 : Option Addr) (c0 : Nat) (l0 : List Int) (r1 : List (S37)) (r2 : Int) (r3 : Int) (w : World) (hr0 : Kd.C (Kd.int .u8) w A0 l0.length l0) (hc0 : l0.length ≤ c0) (h : spec_l5DrawKey.f k l0 = some (r1, r2, r3)) :
 Calls Try.prog 70 #[.slice A0 l0.length c0] w fun e w' => ∃ v0_ : Value, e = .returned (.tuple #[v0_, .int .i64 r2, .int .i64 r3]) ∧ Kd.R k37 37 w' w.heap.size (fun _ => True) v0_ r1 ∧ Below w.heap.size w w' := by
 have HR0 := Aside0.mk hr0; have HC0 := Aside0.mk hc0; clear hr0 hc0; have HB := Aside0.mk (Below.refl w.heap.size w); have H : ((spec_l1New.f k l0).bind fun bt745 => ((spec_l5DrawLots.f k bt745.1 bt745.2.1 bt745.2.2).bind fun bt749 => ((spec_l1Below.f bt745.1 bt749.2.1 bt749.2.2 4).bind fun bt754 => ((spec_l1Below.f bt745.1 bt754.2.1 bt754.2.2 2).bind fun bt757 => (some (bt749.1, wrap64 (1 + bt754.1), wrap64 (1 + bt757.1))))))) = some (r1, r2, r3) := h; clear h; replace H := Option.bind_eq_some_iff.mp H; obtain ⟨⟨t745, t746, t747⟩, A20, H⟩ := H; replace H : ((spec_l5DrawLots.f k t745 t746 t747).bind fun bt749 => ((spec_l1Below.f t745 bt749.2.1 bt749.2.2 4).bind fun bt754 => ((spec_l1Below.f t745 bt754.2.1 bt754.2.2 2).bind fun bt757 => (some (bt749.1, wrap64 (1 + bt754.1), wrap64 (1 + bt757.1)))))) = some (r1, r2, r3) := H; have A2 := Aside0.mk A20; clear A20; replace H := Option.bind_eq_some_iff.mp H; obtain ⟨⟨t749, t752, t753⟩, A30, H⟩ := H; replace H : ((spec_l1Below.f t745 t752 t753 4).bind fun bt754 => ((spec_l1Below.f t745 bt754.2.1 bt754.2.2 2).bind fun bt757 => (some (t749, wrap64 (1 + bt754.1), wrap64 (1 + bt757.1))))) = some (r1, r2, r3) := H; have A3 := Aside0.mk A30; clear A30; replace H := Option.bind_eq_some_iff.mp H; obtain ⟨⟨t754, t755, t756⟩, A40, H⟩ := H; replace H : ((spec_l1Below.f t745 t755 t756 2).bind fun bt757 => (some (t749, wrap64 (1 + t754), wrap64 (1 + bt757.1)))) = some (r1, r2, r3) := H; have A4 := Aside0.mk A40; clear A40
 replace H := Option.bind_eq_some_iff.mp H; obtain ⟨⟨t757, t758, t759⟩, A50, H⟩ := H; replace H : (some (t749, wrap64 (1 + t754), wrap64 (1 + t757))) = some (r1, r2, r3) := H; have A5 := Aside0.mk A50; clear A50; simp only [Option.some.injEq, Prod.mk.injEq] at H; obtain ⟨rfl, rfl, rfl⟩ := H; go_enter Try.func70, Try.ntmps70
 go_wp2_with (first | ((with_reducible refine gate_callee (f := 56) rfl ?_); refine goesL_ (some 8) rfl rfl Try.func56 kr_ rfl #[.slice A0 l0.length c0] rfl (bc_) ?_; (with_reducible refine (spec_l1New.calls k _ _ l0 t745 t746 t747 w _ ?side1 ?side2 ?side3 A2.out).mono ?_); (case side1 => repeat (first | (with_reducible first | exact HB.out | apply below_alloc | apply pw_below_drewN | apply below_drew1) | exact HB.out)); (case side2 => exact HR0.out); (case side3 => exact HC0.out); rintro e w6 ⟨g748, rfl, hi, hb, hb2⟩; refine ⟨_, rfl, ?_⟩; have n_ := as2_ (hb) (hi); clear HB; obtain ⟨HB, HI748⟩ := n_; (try clear hb); (try clear hb2); (try clear hi)) | ((with_reducible refine gate_callee (f := 57) rfl ?_); refine goesL_ (some 10) rfl rfl Try.func57 kr_ rfl #[.pointer (some ⟨g748, 0, none⟩)] rfl (bc_) ?_; (with_reducible refine (spec_l5DrawLots.calls k g748 t745 t746 t747 t749 t752 t753 w _ ?side1 ?side2 A3.out).mono ?_); (case side1 => repeat (first | (with_reducible first | exact HI748.out | apply IsS91.alloc | apply IsS91.drewN | apply IsS91.drew | apply IsS91.set_1 | apply IsS91.set_2) | exact HI748.out)); (case side2 => repeat (first | (with_reducible first | exact HB.out | apply below_alloc | apply pw_below_drewN | apply below_drew1 | refine below_set ?_ (IsS91.ge HI748.out)) | exact HB.out)); rintro e w7 ⟨v750, rfl, ho0, hi, hb, hk⟩; refine ⟨_, rfl, ?_⟩; have n_ := as3_ (Kd.R_lower ho0 (below_size (bg_ (IsS91.ge HI748.out)))) (hb) (hi); clear HB HI748; obtain ⟨HO751, HB, HI748⟩ := n_; (try clear hb); (try clear hk); (try clear hi); (try clear ho0)) | ((with_reducible refine gate_callee (f := 58) rfl ?_); refine goesL_ (some 13) rfl rfl Try.func58 kr_ rfl #[.pointer (some ⟨g748, 0, none⟩), .int .i64 4] rfl (bc_) ?_; (with_reducible refine (spec_l1Below.calls g748 t745 t752 t753 4 t754 t755 t756 w _ ?side1 ?side2 A4.out).mono ?_); (case side1 => repeat (first | (with_reducible first | exact HI748.out | apply IsS91.alloc | apply IsS91.drewN | apply IsS91.drew | apply IsS91.set_1 | apply IsS91.set_2) | exact HI748.out)); (case side2 => repeat (first | (with_reducible first | exact HB.out | apply below_alloc | apply pw_below_drewN | apply below_drew1 | refine below_set ?_ (IsS91.ge HI748.out)) | exact HB.out)); rintro e w8 ⟨rfl, hi, hb, hk⟩; refine ⟨_, rfl, ?_⟩; have n_ := as3_ (Kd.R_mono (Kd.R_keep (IsS91.apart (show IsS91 w _ g748 t745 t752 t753 from is91_ HI748.out) (pe_ HO751.out) (by decide)) hk (fun _ h => h.2)) (fun _ h => h.1)) (hb) (hi); clear HO751 HB HI748; obtain ⟨HO751, HB, HI748⟩ := n_; (try clear hb); (try clear hk); (try clear hi)) | ((with_reducible refine gate_callee (f := 58) rfl ?_); refine goesL_ (some 16) rfl rfl Try.func58 kr_ rfl #[.pointer (some ⟨g748, 0, none⟩), .int .i64 2] rfl (bc_) ?_; (with_reducible refine (spec_l1Below.calls g748 t745 t755 t756 2 t757 t758 t759 w _ ?side1 ?side2 A5.out).mono ?_); (case side1 => repeat (first | (with_reducible first | exact HI748.out | apply IsS91.alloc | apply IsS91.drewN | apply IsS91.drew | apply IsS91.set_1 | apply IsS91.set_2) | exact HI748.out)); (case side2 => repeat (first | (with_reducible first | exact HB.out | apply below_alloc | apply pw_below_drewN | apply below_drew1 | refine below_set ?_ (IsS91.ge HI748.out)) | exact HB.out)); rintro e w9 ⟨rfl, hi, hb, hk⟩; refine ⟨_, rfl, ?_⟩; have n_ := as3_ (Kd.R_mono (Kd.R_keep (IsS91.apart (show IsS91 w _ g748 t745 t755 t756 from is91_ HI748.out) (pe_ HO751.out) (by decide)) hk (fun _ h => h.2)) (fun _ h => h.1)) (hb) (hi); clear HO751 HB HI748; obtain ⟨HO751, HB, HI748⟩ := n_; (try clear hb); (try clear hk); (try clear hi)))
 go_ret3; exact ⟨_, er_, pe_ HO751.out, bg_ (IsS91.ge HI748.out)⟩
end Go.Proofs.Ytomanpmffjkkgaa.P
namespace Go.Proofs.Ytomanpmffjkkgaa.P
open Go.RowKit Go.Proofs.YtomanpmffjkkgaaW.PrintWords Go.Proofs.YtomanpmffjkkgaaW.PrintLast Go.Proofs.YtomanpmffjkkgaaW.PrintMore
attribute [local go_sem] max2_int min2_int max_two min_two max_three min_three max_four min_four   -- for this text's walks alone
set_option linter.unusedVariables false
set_option linter.unusedSimpArgs false
def spec_l2All.l0 : Nat → List Int → Int → Int → Option (Int)
 | 0, _, _, _ => none
 | k + 1, x0, x3, x4 => if x4 < (x0.length : Int) then (if 0 ≤ x4 then (spec_l2All.l0 k x0 (wrap64 (x3 + (rd x0 x4))) (wrap64 (x4 + 1))) else (none)) else (some x3)
def spec_l2All.f (k : Nat) (l0 : List Int) : Option (Int) := spec_l2All.l0 k l0 0 0
set_option maxHeartbeats 8000000 in
set_option maxRecDepth 100000 in
theorem spec_l2All.calls (k : Nat) (A0 : Option Addr) (c0 : Nat) (l0 : List Int) (r : Int) (w : World) (hr0 : Kd.C (Kd.int .i64) w A0 l0.length l0) (hc0 : l0.length ≤ c0) (h : spec_l2All.f k l0 = some r) :
 Calls Try.prog 101 #[.slice A0 l0.length c0] w fun e w' => e = .returned (.int .i64 r) ∧ Drawn0 w w' := by
 have HR0 := Aside0.mk hr0; have HC0 := Aside0.mk hc0; clear hr0 hc0; have H : (spec_l2All.l0 k l0 0 0) = some r := h; clear h; have H' := Aside0.mk H; clear H; go_enter Try.func101, Try.ntmps101; go_wp2; go_loopg [3, 4] k (fun kq v3 v4 w' => ∃ (x3_1 : Int) (x4_1 : Int), v3 = .int .i64 x3_1 ∧ v4 = .int .i64 x4_1 ∧ Aside0 (spec_l2All.l0 kq l0 x3_1 x4_1 = some r) ∧ Aside0 (kq ≤ k) ∧ Drawn0 w w')
 case atStart => exact ⟨(0), (0), (rs_), (rs_), H', ⟨Nat.le_refl _⟩, dr_⟩
 case round =>
  clear H'; try clear c1
  obtain ⟨x3_1, x4_1, rfl, rfl, HA, HK1, ⟨m1, rfl⟩⟩ := hrel
  cases gk with
  | zero => exact absurd HA.out (by simp [spec_l2All.l0])
  | succ k1 =>
   have H := HA.out; clear HA; simp only [spec_l2All.l0] at H
   by_cases c2 : x4_1 < (l0.length : Int)
   ·
    rw [if_pos c2] at H; have c2b0 : decide (x4_1 < (l0.length : Int)) = true := decide_eq_true c2; clear c2
    by_cases c3 : 0 ≤ x4_1
    ·
     rw [if_pos c3] at H; have c3b0 : decide (0 ≤ x4_1) = true := decide_eq_true c3; clear c3; have H' := Aside0.mk H; clear H; have p880 : 0 ≤ (x4_1 : Int) := od_; have q880 : x4_1 < (l0.length : Int) := od_; obtain ⟨ad880, e880, hx880_0⟩ := Kd.at_int HR0.out x4_1 p880 q880; cases e880; replace p880 := eq_true p880; replace q880 := eq_true q880; go_wp2; go_roundg k1
     case measure => have := HK1.out; omega
     case rel => exact ⟨(wrap64 (x3_1 + (rd l0 x4_1))), (wrap64 (x4_1 + 1)), (rs_), (rs_), H', ⟨by have := HK1.out; omega⟩, dr_⟩
    ·
     rw [if_neg c3] at H; exact absurd H (by simp)
   ·
    rw [if_neg c2] at H; have c2b0 : decide (x4_1 < (l0.length : Int)) = false := decide_eq_false c2; clear c2; obtain rfl := Option.some.inj H; go_wp2; go_ret; exact ⟨rs_, dr_⟩
end Go.Proofs.Ytomanpmffjkkgaa.P
namespace Go.Proofs.Ytomanpmffjkkgaa.P
open Go.RowKit Go.Proofs.YtomanpmffjkkgaaW.PrintWords Go.Proofs.YtomanpmffjkkgaaW.PrintLast Go.Proofs.YtomanpmffjkkgaaW.PrintMore
attribute [local go_sem] max2_int min2_int max_two min_two max_three min_three max_four min_four   -- for this text's walks alone
set_option linter.unusedVariables false
set_option linter.unusedSimpArgs false
def spec_WeightsOk.l0 : Nat → List Int → Int → Option (Bool)
 | 0, _, _ => none
 | k + 1, x0, x3 => if x3 < (x0.length : Int) then (if 0 ≤ x3 then ((spec_l1Some.f (rd x0 x3) 0).bind fun t883 => (if t883 = true then (spec_WeightsOk.l0 k x0 (wrap64 (x3 + 1))) else (some false))) else (none)) else ((spec_l2All.f k x0).bind fun t884 => ((spec_l1Some.f t884 1).bind fun t885 => (some t885)))
def spec_WeightsOk.f (k : Nat) (l0 : List Int) : Option (Bool) := (spec_l1In.f (l0.length : Int) 1 40).bind fun t881 => (if t881 = true then (spec_WeightsOk.l0 k l0 0) else (some false))
set_option maxHeartbeats 8000000 in
set_option maxRecDepth 100000 in
theorem spec_WeightsOk.calls (k : Nat) (A0 : Option Addr) (c0 : Nat) (l0 : List Int) (r : Bool) (w : World) (hr0 : Kd.C (Kd.int .i64) w A0 l0.length l0) (hc0 : l0.length ≤ c0) (h : spec_WeightsOk.f k l0 = some r) :
 Calls Try.prog 89 #[.slice A0 l0.length c0] w fun e w' => e = .returned (.bool r) ∧ Drawn0 w w' := by
 have HR0 := Aside0.mk hr0; have HC0 := Aside0.mk hc0; clear hr0 hc0; have H : ((spec_l1In.f (l0.length : Int) 1 40).bind fun t881 => (if t881 = true then (spec_WeightsOk.l0 k l0 0) else (some false))) = some r := h; clear h; replace H := Option.bind_eq_some_iff.mp H; obtain ⟨t881, A20, H⟩ := H; have A2 := Aside0.mk A20; clear A20
 by_cases c3 : t881 = true
 ·
  subst c3; have H' := Aside0.mk (Eq.trans (if_pos rfl).symm H); clear H; go_enter Try.func89, Try.ntmps89; go_wp2_with (first | ((with_reducible refine gate_callee (f := 61) rfl ?_); refine goesL_ (some 6) rfl rfl Try.func61 kr_ rfl #[.int .i64 (l0.length : Int), .int .i64 1, .int .i64 40] rfl (bc_) ?_; (with_reducible refine (spec_l1In.calls (l0.length : Int) 1 40 true _ A2.out).mono ?_); rintro e w' ⟨rfl, ⟨nd, rfl⟩⟩; refine ⟨_, rfl, ?_⟩))
  go_loopg [3] k (fun kq v3 w' => ∃ (x3_1 : Int), v3 = .int .i64 x3_1 ∧ Aside0 (spec_WeightsOk.l0 kq l0 x3_1 = some r) ∧ Aside0 (kq ≤ k) ∧ Drawn0 w w')
  case atStart => exact ⟨(0), (rs_), H', ⟨Nat.le_refl _⟩, dr_⟩
  case round =>
   clear H'; (try clear p2); (try clear c3); obtain ⟨x3_1, rfl, HA, HK1, ⟨m1, rfl⟩⟩ := hrel
   cases gk with
   | zero => exact absurd HA.out (by simp [spec_WeightsOk.l0])
   | succ k1 =>
    have H := HA.out; clear HA; simp only [spec_WeightsOk.l0] at H
    by_cases c4 : x3_1 < (l0.length : Int)
    ·
     rw [if_pos c4] at H; have c4b0 : decide (x3_1 < (l0.length : Int)) = true := decide_eq_true c4; clear c4
     by_cases c5 : 0 ≤ x3_1
     ·
      rw [if_pos c5] at H; have c5b0 : decide (0 ≤ x3_1) = true := decide_eq_true c5; clear c5; replace H := Option.bind_eq_some_iff.mp H; obtain ⟨t883, A60, H⟩ := H; have A6 := Aside0.mk A60; clear A60
      by_cases c7 : t883 = true
      ·
       subst c7; have H' := Aside0.mk (Eq.trans (if_pos rfl).symm H); clear H; have p882 : 0 ≤ (x3_1 : Int) := od_; have q882 : x3_1 < (l0.length : Int) := od_; obtain ⟨ad882, e882, hx882_0⟩ := Kd.at_int HR0.out x3_1 p882 q882; cases e882; replace p882 := eq_true p882; replace q882 := eq_true q882; go_wp2_with (first | ((with_reducible refine gate_callee (f := 60) rfl ?_); refine goesL_ (some 18) rfl rfl Try.func60 kr_ rfl #[.int .i64 (rd l0 x3_1), .int .i64 0] rfl (bc_) ?_; (with_reducible refine (spec_l1Some.calls (rd l0 x3_1) 0 true _ A6.out).mono ?_); rintro e w' ⟨rfl, ⟨nd, rfl⟩⟩; refine ⟨_, rfl, ?_⟩))
       go_roundg k1
       case measure => have := HK1.out; omega
       case rel => exact ⟨(wrap64 (x3_1 + 1)), (rs_), H', ⟨by have := HK1.out; omega⟩, dr_⟩
      ·
       replace c7 := Bool.eq_false_iff.mpr c7; subst c7; replace H := Eq.trans (if_neg nf_).symm H; obtain rfl := Option.some.inj H; have p882 : 0 ≤ (x3_1 : Int) := od_; have q882 : x3_1 < (l0.length : Int) := od_; obtain ⟨ad882, e882, hx882_0⟩ := Kd.at_int HR0.out x3_1 p882 q882; cases e882; replace p882 := eq_true p882; replace q882 := eq_true q882; go_wp2_with (first | ((with_reducible refine gate_callee (f := 60) rfl ?_); refine goesL_ (some 18) rfl rfl Try.func60 kr_ rfl #[.int .i64 (rd l0 x3_1), .int .i64 0] rfl (bc_) ?_; (with_reducible refine (spec_l1Some.calls (rd l0 x3_1) 0 false _ A6.out).mono ?_); rintro e w' ⟨rfl, ⟨nd, rfl⟩⟩; refine ⟨_, rfl, ?_⟩))
       go_ret; exact ⟨rs_, dr_⟩
     ·
      rw [if_neg c5] at H; exact absurd H (by simp)
    ·
     rw [if_neg c4] at H; have c4b0 : decide (x3_1 < (l0.length : Int)) = false := decide_eq_false c4; clear c4; replace H := Option.bind_eq_some_iff.mp H; obtain ⟨t884, A80, H⟩ := H; have A8 := Aside0.mk A80; clear A80; replace H := Option.bind_eq_some_iff.mp H; obtain ⟨t885, A90, H⟩ := H; have A9 := Aside0.mk A90; clear A90; obtain rfl := Option.some.inj H; go_wp2_with (first | ((with_reducible refine gate_callee (f := 101) rfl ?_); refine goesL_ (some 21) rfl rfl Try.func101 kr_ rfl #[.slice A0 l0.length c0] rfl (bc_) ?_; (with_reducible refine (spec_l2All.calls k1 _ _ l0 t884 _ ?side1 ?side2 A8.out).mono ?_); (case side1 => exact cc_ HR0.out); (case side2 => exact HC0.out); rintro e w' ⟨rfl, ⟨nd, rfl⟩⟩; refine ⟨_, rfl, ?_⟩) | ((with_reducible refine gate_callee (f := 60) rfl ?_); refine goesL_ (some 22) rfl rfl Try.func60 kr_ rfl #[.int .i64 t884, .int .i64 1] rfl (bc_) ?_; (with_reducible refine (spec_l1Some.calls t884 1 t885 _ A9.out).mono ?_); rintro e w' ⟨rfl, ⟨nd, rfl⟩⟩; refine ⟨_, rfl, ?_⟩))
     go_ret; exact ⟨rs_, dr_⟩
 ·
  replace c3 := Bool.eq_false_iff.mpr c3; subst c3; replace H := Eq.trans (if_neg nf_).symm H; obtain rfl := Option.some.inj H; go_enter Try.func89, Try.ntmps89; go_wp2_with (first | ((with_reducible refine gate_callee (f := 61) rfl ?_); refine goesL_ (some 6) rfl rfl Try.func61 kr_ rfl #[.int .i64 (l0.length : Int), .int .i64 1, .int .i64 40] rfl (bc_) ?_; (with_reducible refine (spec_l1In.calls (l0.length : Int) 1 40 false _ A2.out).mono ?_); rintro e w' ⟨rfl, ⟨nd, rfl⟩⟩; refine ⟨_, rfl, ?_⟩))
  go_ret; exact ⟨rs_, dr_⟩
def spec_ShareQuota.j0 : Nat → Int → List Int → Int → Bool → Option (Int × Int × Bool)
 | 0, _, _, _, _ => none
 | k + 1, x0, x1, x2, x24 => if x24 = true then (some (0, 0, false)) else (if 0 ≤ x2 then (if x2 < (x1.length : Int) then ((spec_l2All.f k x1).bind fun t890 => ((spec_MulDiv.f k x0 (rd x1 x2) t890).bind fun bt891 => (some (bt891.1, bt891.2.1, bt891.2.2)))) else (none)) else (none))
def spec_ShareQuota.f (k : Nat) (a0 : Int) (l1 : List Int) (a2 : Int) : Option (Int × Int × Bool) := (spec_WeightsOk.f k l1).bind fun t886 => (if t886 = true then ((spec_l1Some.f a0 0).bind fun t887 => (if t887 = true then ((spec_l1In.f a2 0 (wrap64 ((l1.length : Int) - 1))).bind fun t888 => (spec_ShareQuota.j0 k a0 l1 a2 (!t888))) else (spec_ShareQuota.j0 k a0 l1 a2 true))) else (spec_ShareQuota.j0 k a0 l1 a2 true))
set_option maxHeartbeats 8000000 in
set_option maxRecDepth 100000 in
theorem spec_ShareQuota.calls (k : Nat) (a0 : Int) (A1 : Option Addr) (c1 : Nat) (l1 : List Int) (a2 : Int) (r1 : Int) (r2 : Int) (r3 : Bool) (w : World) (hr1 : Kd.C (Kd.int .i64) w A1 l1.length l1) (hc1 : l1.length ≤ c1) (h : spec_ShareQuota.f k a0 l1 a2 = some (r1, r2, r3)) :
 Calls Try.prog 90 #[.int .i64 a0, .slice A1 l1.length c1, .int .i64 a2] w fun e w' => e = .returned (.tuple #[.int .i64 r1, .int .i64 r2, .bool r3]) ∧ Drawn0 w w' := by
 have HR1 := Aside0.mk hr1; have HC1 := Aside0.mk hc1; clear hr1 hc1; have H : ((spec_WeightsOk.f k l1).bind fun t886 => (if t886 = true then ((spec_l1Some.f a0 0).bind fun t887 => (if t887 = true then ((spec_l1In.f a2 0 (wrap64 ((l1.length : Int) - 1))).bind fun t888 => (spec_ShareQuota.j0 k a0 l1 a2 (!t888))) else (spec_ShareQuota.j0 k a0 l1 a2 true))) else (spec_ShareQuota.j0 k a0 l1 a2 true))) = some (r1, r2, r3) := h; clear h; have HC4 := Aside0.mk H; clear H; go_enter Try.func90, Try.ntmps90; go_upto_region 1 with (fail)
 repeat (go_quiet (fail); go_upto_region 1 with (fail))
 go_cut [24] (fun v24 wc => ∃ (kq : Nat) (x24_3 : Bool), v24 = .bool x24_3 ∧ Aside0 (spec_ShareQuota.j0 kq a0 l1 a2 x24_3 = some (r1, r2, r3)) ∧ Aside0 (kq ≤ k) ∧ Drawn0 w wc)
 case first =>
  have H := HC4.out; clear HC4; replace H := Option.bind_eq_some_iff.mp H; obtain ⟨t886, A50, H⟩ := H; have A5 := Aside0.mk A50; clear A50
  by_cases c6 : t886 = true
  ·
   subst c6; replace H := Eq.trans (if_pos rfl).symm H; replace H := Option.bind_eq_some_iff.mp H; obtain ⟨t887, A70, H⟩ := H; have A7 := Aside0.mk A70; clear A70
   by_cases c8 : t887 = true
   ·
    subst c8; replace H := Eq.trans (if_pos rfl).symm H; replace H := Option.bind_eq_some_iff.mp H; obtain ⟨t888, A90, H⟩ := H; have A9 := Aside0.mk A90; clear A90; have H' := Aside0.mk H; clear H; go_wp2_with (first | (go_at_call 89; (with_reducible refine (spec_WeightsOk.calls k _ _ l1 true _ ?side1 ?side2 A5.out).mono ?_); (case side1 => exact cc_ HR1.out); (case side2 => exact HC1.out); rintro e w' ⟨rfl, ⟨nd, rfl⟩⟩; (try first | exact ⟨rfl, _, World.drewN_drewN _ _ _⟩ | exact ⟨rfl, _, Eq.trans (World.drewN_drewN _ _ _) (congrArg (World.drewN _) (Nat.add_assoc _ _ _))⟩)) | (go_at_call 60; (with_reducible refine (spec_l1Some.calls a0 0 true _ A7.out).mono ?_); rintro e w' ⟨rfl, ⟨nd, rfl⟩⟩; (try first | exact ⟨rfl, _, World.drewN_drewN _ _ _⟩ | exact ⟨rfl, _, Eq.trans (World.drewN_drewN _ _ _) (congrArg (World.drewN _) (Nat.add_assoc _ _ _))⟩)) | (go_at_call 61; (with_reducible refine (spec_l1In.calls a2 0 (wrap64 ((l1.length : Int) - 1)) t888 _ A9.out).mono ?_); rintro e w' ⟨rfl, ⟨nd, rfl⟩⟩; (try first | exact ⟨rfl, _, World.drewN_drewN _ _ _⟩ | exact ⟨rfl, _, Eq.trans (World.drewN_drewN _ _ _) (congrArg (World.drewN _) (Nat.add_assoc _ _ _))⟩)))
    repeat (go_quiet (first | (go_at_call 89; (with_reducible refine (spec_WeightsOk.calls k _ _ l1 true _ ?side1 ?side2 A5.out).mono ?_); (case side1 => exact cc_ HR1.out); (case side2 => exact HC1.out); rintro e w' ⟨rfl, ⟨nd, rfl⟩⟩; (try first | exact ⟨rfl, _, World.drewN_drewN _ _ _⟩ | exact ⟨rfl, _, Eq.trans (World.drewN_drewN _ _ _) (congrArg (World.drewN _) (Nat.add_assoc _ _ _))⟩)) | (go_at_call 60; (with_reducible refine (spec_l1Some.calls a0 0 true _ A7.out).mono ?_); rintro e w' ⟨rfl, ⟨nd, rfl⟩⟩; (try first | exact ⟨rfl, _, World.drewN_drewN _ _ _⟩ | exact ⟨rfl, _, Eq.trans (World.drewN_drewN _ _ _) (congrArg (World.drewN _) (Nat.add_assoc _ _ _))⟩)) | (go_at_call 61; (with_reducible refine (spec_l1In.calls a2 0 (wrap64 ((l1.length : Int) - 1)) t888 _ A9.out).mono ?_); rintro e w' ⟨rfl, ⟨nd, rfl⟩⟩; (try first | exact ⟨rfl, _, World.drewN_drewN _ _ _⟩ | exact ⟨rfl, _, Eq.trans (World.drewN_drewN _ _ _) (congrArg (World.drewN _) (Nat.add_assoc _ _ _))⟩))); try go_wp2_with (first | (go_at_call 89; (with_reducible refine (spec_WeightsOk.calls k _ _ l1 true _ ?side1 ?side2 A5.out).mono ?_); (case side1 => exact cc_ HR1.out); (case side2 => exact HC1.out); rintro e w' ⟨rfl, ⟨nd, rfl⟩⟩; (try first | exact ⟨rfl, _, World.drewN_drewN _ _ _⟩ | exact ⟨rfl, _, Eq.trans (World.drewN_drewN _ _ _) (congrArg (World.drewN _) (Nat.add_assoc _ _ _))⟩)) | (go_at_call 60; (with_reducible refine (spec_l1Some.calls a0 0 true _ A7.out).mono ?_); rintro e w' ⟨rfl, ⟨nd, rfl⟩⟩; (try first | exact ⟨rfl, _, World.drewN_drewN _ _ _⟩ | exact ⟨rfl, _, Eq.trans (World.drewN_drewN _ _ _) (congrArg (World.drewN _) (Nat.add_assoc _ _ _))⟩)) | (go_at_call 61; (with_reducible refine (spec_l1In.calls a2 0 (wrap64 ((l1.length : Int) - 1)) t888 _ A9.out).mono ?_); rintro e w' ⟨rfl, ⟨nd, rfl⟩⟩; (try first | exact ⟨rfl, _, World.drewN_drewN _ _ _⟩ | exact ⟨rfl, _, Eq.trans (World.drewN_drewN _ _ _) (congrArg (World.drewN _) (Nat.add_assoc _ _ _))⟩))))
    go_meet
    case rel => exact ⟨_, (!t888), (rs_), H', ⟨le_⟩, dr_⟩
   ·
    replace c8 := Bool.eq_false_iff.mpr c8; subst c8; have H' := Aside0.mk (Eq.trans (if_neg nf_).symm H); clear H; go_wp2_with (first | (go_at_call 89; (with_reducible refine (spec_WeightsOk.calls k _ _ l1 true _ ?side1 ?side2 A5.out).mono ?_); (case side1 => exact cc_ HR1.out); (case side2 => exact HC1.out); rintro e w' ⟨rfl, ⟨nd, rfl⟩⟩; (try first | exact ⟨rfl, _, World.drewN_drewN _ _ _⟩ | exact ⟨rfl, _, Eq.trans (World.drewN_drewN _ _ _) (congrArg (World.drewN _) (Nat.add_assoc _ _ _))⟩)) | (go_at_call 60; (with_reducible refine (spec_l1Some.calls a0 0 false _ A7.out).mono ?_); rintro e w' ⟨rfl, ⟨nd, rfl⟩⟩; (try first | exact ⟨rfl, _, World.drewN_drewN _ _ _⟩ | exact ⟨rfl, _, Eq.trans (World.drewN_drewN _ _ _) (congrArg (World.drewN _) (Nat.add_assoc _ _ _))⟩)))
    repeat (go_quiet (first | (go_at_call 89; (with_reducible refine (spec_WeightsOk.calls k _ _ l1 true _ ?side1 ?side2 A5.out).mono ?_); (case side1 => exact cc_ HR1.out); (case side2 => exact HC1.out); rintro e w' ⟨rfl, ⟨nd, rfl⟩⟩; (try first | exact ⟨rfl, _, World.drewN_drewN _ _ _⟩ | exact ⟨rfl, _, Eq.trans (World.drewN_drewN _ _ _) (congrArg (World.drewN _) (Nat.add_assoc _ _ _))⟩)) | (go_at_call 60; (with_reducible refine (spec_l1Some.calls a0 0 false _ A7.out).mono ?_); rintro e w' ⟨rfl, ⟨nd, rfl⟩⟩; (try first | exact ⟨rfl, _, World.drewN_drewN _ _ _⟩ | exact ⟨rfl, _, Eq.trans (World.drewN_drewN _ _ _) (congrArg (World.drewN _) (Nat.add_assoc _ _ _))⟩))); try go_wp2_with (first | (go_at_call 89; (with_reducible refine (spec_WeightsOk.calls k _ _ l1 true _ ?side1 ?side2 A5.out).mono ?_); (case side1 => exact cc_ HR1.out); (case side2 => exact HC1.out); rintro e w' ⟨rfl, ⟨nd, rfl⟩⟩; (try first | exact ⟨rfl, _, World.drewN_drewN _ _ _⟩ | exact ⟨rfl, _, Eq.trans (World.drewN_drewN _ _ _) (congrArg (World.drewN _) (Nat.add_assoc _ _ _))⟩)) | (go_at_call 60; (with_reducible refine (spec_l1Some.calls a0 0 false _ A7.out).mono ?_); rintro e w' ⟨rfl, ⟨nd, rfl⟩⟩; (try first | exact ⟨rfl, _, World.drewN_drewN _ _ _⟩ | exact ⟨rfl, _, Eq.trans (World.drewN_drewN _ _ _) (congrArg (World.drewN _) (Nat.add_assoc _ _ _))⟩))))
    go_meet
    case rel => exact ⟨_, (true), (rs_), H', ⟨le_⟩, dr_⟩
  ·
   replace c6 := Bool.eq_false_iff.mpr c6; subst c6; have H' := Aside0.mk (Eq.trans (if_neg nf_).symm H); clear H; go_wp2_with (first | (go_at_call 89; (with_reducible refine (spec_WeightsOk.calls k _ _ l1 false _ ?side1 ?side2 A5.out).mono ?_); (case side1 => exact cc_ HR1.out); (case side2 => exact HC1.out); rintro e w' ⟨rfl, ⟨nd, rfl⟩⟩; (try first | exact ⟨rfl, _, World.drewN_drewN _ _ _⟩ | exact ⟨rfl, _, Eq.trans (World.drewN_drewN _ _ _) (congrArg (World.drewN _) (Nat.add_assoc _ _ _))⟩)))
   repeat (go_quiet (first | (go_at_call 89; (with_reducible refine (spec_WeightsOk.calls k _ _ l1 false _ ?side1 ?side2 A5.out).mono ?_); (case side1 => exact cc_ HR1.out); (case side2 => exact HC1.out); rintro e w' ⟨rfl, ⟨nd, rfl⟩⟩; (try first | exact ⟨rfl, _, World.drewN_drewN _ _ _⟩ | exact ⟨rfl, _, Eq.trans (World.drewN_drewN _ _ _) (congrArg (World.drewN _) (Nat.add_assoc _ _ _))⟩))); try go_wp2_with (first | (go_at_call 89; (with_reducible refine (spec_WeightsOk.calls k _ _ l1 false _ ?side1 ?side2 A5.out).mono ?_); (case side1 => exact cc_ HR1.out); (case side2 => exact HC1.out); rintro e w' ⟨rfl, ⟨nd, rfl⟩⟩; (try first | exact ⟨rfl, _, World.drewN_drewN _ _ _⟩ | exact ⟨rfl, _, Eq.trans (World.drewN_drewN _ _ _) (congrArg (World.drewN _) (Nat.add_assoc _ _ _))⟩))))
   go_meet
   case rel => exact ⟨_, (true), (rs_), H', ⟨le_⟩, dr_⟩
 case rest =>
  clear HC4; try clear c1
  try clear p2
  try clear c6
  try clear p6
  try clear c8
  try clear c9
  obtain ⟨kq, x24_3, rfl, HA, HJ3, ⟨mc3, rfl⟩⟩ := hcut
  cases kq with
  | zero => exact absurd HA.out (by simp [spec_ShareQuota.j0])
  | succ kj3 =>
   have H := HA.out; clear HA; simp only [spec_ShareQuota.j0] at H
   by_cases c10 : x24_3 = true
   ·
    subst c10; replace H := Eq.trans (if_pos rfl).symm H; simp only [Option.some.injEq, Prod.mk.injEq] at H; obtain ⟨rfl, rfl, rfl⟩ := H; go_wp2; repeat (go_quiet (fail); try go_wp2)
    go_ret3; exact ⟨rs_, dr_⟩
   ·
    replace c10 := Bool.eq_false_iff.mpr c10; subst c10; replace H := Eq.trans (if_neg nf_).symm H
    by_cases c11 : 0 ≤ a2
    ·
     rw [if_pos c11] at H; have c11b0 : decide (0 ≤ a2) = true := decide_eq_true c11; clear c11
     by_cases c12 : a2 < (l1.length : Int)
     ·
      rw [if_pos c12] at H; have c12b0 : decide (a2 < (l1.length : Int)) = true := decide_eq_true c12; clear c12; replace H := Option.bind_eq_some_iff.mp H; obtain ⟨t890, A130, H⟩ := H; have A13 := Aside0.mk A130; clear A130; replace H := Option.bind_eq_some_iff.mp H; obtain ⟨⟨t891, t892, t893⟩, A140, H⟩ := H; replace H : (some (t891, t892, t893)) = some (r1, r2, r3) := H; have A14 := Aside0.mk A140; clear A140; simp only [Option.some.injEq, Prod.mk.injEq] at H; obtain ⟨rfl, rfl, rfl⟩ := H; have p889 : 0 ≤ (a2 : Int) := od_; have q889 : a2 < (l1.length : Int) := od_; obtain ⟨ad889, e889, hx889_0⟩ := Kd.at_int HR1.out a2 p889 q889; cases e889; replace p889 := eq_true p889; replace q889 := eq_true q889; go_wp2_with (first | (go_at_call 101; (with_reducible refine (spec_l2All.calls kj3 _ _ l1 t890 _ ?side1 ?side2 A13.out).mono ?_); (case side1 => exact cc_ HR1.out); (case side2 => exact HC1.out); rintro e w' ⟨rfl, ⟨nd, rfl⟩⟩; (try first | exact ⟨rfl, _, World.drewN_drewN _ _ _⟩ | exact ⟨rfl, _, Eq.trans (World.drewN_drewN _ _ _) (congrArg (World.drewN _) (Nat.add_assoc _ _ _))⟩)) | (go_at_call 64; (with_reducible refine (spec_MulDiv.calls kj3 a0 (rd l1 a2) t890 t891 t892 t893 _ A14.out).mono ?_); rintro e w' ⟨rfl, ⟨nd, rfl⟩⟩; (try first | exact ⟨rfl, _, World.drewN_drewN _ _ _⟩ | exact ⟨rfl, _, Eq.trans (World.drewN_drewN _ _ _) (congrArg (World.drewN _) (Nat.add_assoc _ _ _))⟩)))
      repeat (go_quiet (first | (go_at_call 101; (with_reducible refine (spec_l2All.calls kj3 _ _ l1 t890 _ ?side1 ?side2 A13.out).mono ?_); (case side1 => exact cc_ HR1.out); (case side2 => exact HC1.out); rintro e w' ⟨rfl, ⟨nd, rfl⟩⟩; (try first | exact ⟨rfl, _, World.drewN_drewN _ _ _⟩ | exact ⟨rfl, _, Eq.trans (World.drewN_drewN _ _ _) (congrArg (World.drewN _) (Nat.add_assoc _ _ _))⟩)) | (go_at_call 64; (with_reducible refine (spec_MulDiv.calls kj3 a0 (rd l1 a2) t890 t891 t892 t893 _ A14.out).mono ?_); rintro e w' ⟨rfl, ⟨nd, rfl⟩⟩; (try first | exact ⟨rfl, _, World.drewN_drewN _ _ _⟩ | exact ⟨rfl, _, Eq.trans (World.drewN_drewN _ _ _) (congrArg (World.drewN _) (Nat.add_assoc _ _ _))⟩))); try go_wp2_with (first | (go_at_call 101; (with_reducible refine (spec_l2All.calls kj3 _ _ l1 t890 _ ?side1 ?side2 A13.out).mono ?_); (case side1 => exact cc_ HR1.out); (case side2 => exact HC1.out); rintro e w' ⟨rfl, ⟨nd, rfl⟩⟩; (try first | exact ⟨rfl, _, World.drewN_drewN _ _ _⟩ | exact ⟨rfl, _, Eq.trans (World.drewN_drewN _ _ _) (congrArg (World.drewN _) (Nat.add_assoc _ _ _))⟩)) | (go_at_call 64; (with_reducible refine (spec_MulDiv.calls kj3 a0 (rd l1 a2) t890 t891 t892 t893 _ A14.out).mono ?_); rintro e w' ⟨rfl, ⟨nd, rfl⟩⟩; (try first | exact ⟨rfl, _, World.drewN_drewN _ _ _⟩ | exact ⟨rfl, _, Eq.trans (World.drewN_drewN _ _ _) (congrArg (World.drewN _) (Nat.add_assoc _ _ _))⟩))))
      go_ret3; exact ⟨rs_, dr_⟩
     ·
      rw [if_neg c12] at H; exact absurd H (by simp)
    ·
     rw [if_neg c11] at H; exact absurd H (by simp)
mutual
def spec_ShareOrder.j0 : Nat → Int → List Int → List Int → Bool → Option (List Int)
 | 0, _, _, _, _ => none
 | k + 1, x0, x1, x5, x21 => if x21 = true then (some x5) else (spec_ShareOrder.l0 k x0 x1 x5 (([] : List Int)) 0)
def spec_ShareOrder.l0 : Nat → Int → List Int → List Int → List Int → Int → Option (List Int)
 | 0, _, _, _, _, _ => none
 | k + 1, x0, x1, x5, x6, x7 => if x7 < (x1.length : Int) then ((spec_ShareQuota.f k x0 x1 x7).bind fun bt902 => (if x6.length < 17592186044416 then (spec_ShareOrder.l1 k x0 x1 x5 (x6 ++ [bt902.2.1]) x7 bt902.2.1 (x5.length : Int)) else (none))) else (some x5)
def spec_ShareOrder.l1 : Nat → Int → List Int → List Int → List Int → Int → Int → Int → Option (List Int)
 | 0, _, _, _, _, _, _, _ => none
 | k + 1, x0, x1, x5, x6, x7, x9, x11 => if x11 > 0 then (if 0 ≤ (wrap64 (x11 - 1)) then (if (wrap64 (x11 - 1)) < (x5.length : Int) then (if 0 ≤ (rd x5 (wrap64 (x11 - 1))) then (if (rd x5 (wrap64 (x11 - 1))) < (x6.length : Int) then (if (rd x6 (rd x5 (wrap64 (x11 - 1)))) < x9 then (spec_ShareOrder.l1 k x0 x1 x5 x6 x7 x9 (wrap64 (x11 - 1))) else ((some (([] : List Int) : List Int)).bind fun y910 => (if 0 ≤ x11 then (if x11 ≤ (x5.length : Int) then ((some (x5.take (x11 : Int).toNat : List Int)).bind fun y913 => (if y910.length + y913.length < 17592186044416 then ((some (y910 ++ y913 : List Int)).bind fun y917 => (if y917.length < 17592186044416 then ((some (y917 ++ [x7] : List Int)).bind fun y920 => ((some (x5.drop (x11 : Int).toNat : List Int)).bind fun y923 => (if y920.length + y923.length < 17592186044416 then (spec_ShareOrder.l0 k x0 x1 (y920 ++ y923) x6 (wrap64 (x7 + 1))) else (none)))) else (none))) else (none))) else (none)) else (none)))) else (none)) else (none)) else (none)) else (none)) else ((some (([] : List Int) : List Int)).bind fun y930 => (if 0 ≤ x11 then (if x11 ≤ (x5.length : Int) then ((some (x5.take (x11 : Int).toNat : List Int)).bind fun y933 => (if y930.length + y933.length < 17592186044416 then ((some (y930 ++ y933 : List Int)).bind fun y937 => (if y937.length < 17592186044416 then ((some (y937 ++ [x7] : List Int)).bind fun y940 => ((some (x5.drop (x11 : Int).toNat : List Int)).bind fun y943 => (if y940.length + y943.length < 17592186044416 then (spec_ShareOrder.l0 k x0 x1 (y940 ++ y943) x6 (wrap64 (x7 + 1))) else (none)))) else (none))) else (none))) else (none)) else (none)))
end
def spec_ShareOrder.f (k : Nat) (a0 : Int) (l1 : List Int) : Option (List Int) := (some (([] : List Int) : List Int)).bind fun y894 => ((spec_WeightsOk.f k l1).bind fun t897 => (if t897 = true then ((spec_l1Some.f a0 0).bind fun t898 => (spec_ShareOrder.j0 k a0 l1 y894 (!t898))) else (spec_ShareOrder.j0 k a0 l1 y894 true)))
set_option maxHeartbeats 8000000 in
set_option maxRecDepth 100000 in
theorem spec_ShareOrder.calls (k : Nat) (a0 : Int) (A1 : Option Addr) (c1 : Nat) (l1 : List Int) (r : List Int) (w : World) (hr1 : Kd.C (Kd.int .i64) w A1 l1.length l1) (hc1 : l1.length ≤ c1) (h : spec_ShareOrder.f k a0 l1 = some r) :
 Calls Try.prog 91 #[.int .i64 a0, .slice A1 l1.length c1] w fun e w' => ∃ v0_ : Value, e = .returned (v0_) ∧ Kd.R (Kd.int .i64) 3 w' w.heap.size (fun _ => True) v0_ r ∧ Below w.heap.size w w' := by
 have HR1 := Aside0.mk hr1; have HC1 := Aside0.mk hc1; clear hr1 hc1; have HB := Aside0.mk (Below.refl w.heap.size w); have H : ((some (([] : List Int) : List Int)).bind fun y894 => ((spec_WeightsOk.f k l1).bind fun t897 => (if t897 = true then ((spec_l1Some.f a0 0).bind fun t898 => (spec_ShareOrder.j0 k a0 l1 y894 (!t898))) else (spec_ShareOrder.j0 k a0 l1 y894 true)))) = some r := h; clear h; obtain ⟨y894, hy894⟩ : ∃ y_ : List Int, y_ = (([] : List Int)) := ⟨_, rfl⟩; replace H : ((spec_WeightsOk.f k l1).bind fun t897 => (if t897 = true then ((spec_l1Some.f a0 0).bind fun t898 => (spec_ShareOrder.j0 k a0 l1 y894 (!t898))) else (spec_ShareOrder.j0 k a0 l1 y894 true))) = some r := rh_ hy894 H; have Ny894 := Aside0.mk hy894; clear hy894; have HC3 := Aside0.mk H; clear H; go_enter Try.func91, Try.ntmps91
 go_upto_region 2 with (first | ((with_reducible refine gate_dst (N := 13) rfl ?_); refine Kd.R_lit (Kd.int .i64) _ 3 ?hg (N := 13) ?hd (xs := ([] : List Int)) (inner := []) (ok := fun _ => True) (okp := fun _ => True) ?hr ?hp (fun _ hk => hk) trivial (Below.refl _ _) (Nat.le_refl _) (by simp) ?_; (case hd => rfl); (case hg => rfl); (case hr => first | (go_simp; done) | (go_simp; rfl)); (case hp => exact (Reps.none _ _)); intro v895 w4 ho5 hb hg_ hnew_; clear hg_ hnew_; (first | rw [← Ny894.out] at ho5 | (simp only [Int.reduceToNat] at ho5; rw [← Ny894.out] at ho5)); have n_ := as2_ (Kd.R_lower ho5 (below_size (bb_))) (below_step (bb_) hb); clear HB; obtain ⟨HO896, HB⟩ := n_; clear hb ho5))
 (try simp only [Act.put, List.setIfInBounds_toArray, List.set_cons_zero, List.set_cons_succ])
 go_cut [21] (fun v21 wc => ∃ (kq : Nat) (x21_2 : Bool), v21 = .bool x21_2 ∧ Aside0 (spec_ShareOrder.j0 kq a0 l1 y894 x21_2 = some r) ∧ Aside0 (kq ≤ k) ∧ Aside0 (Kd.R (Kd.int .i64) 3 wc w.heap.size (fun _ => True) v895 y894) ∧ Aside0 (Below w.heap.size w wc))
 case first =>
  have H := HC3.out; clear HC3; replace H := Option.bind_eq_some_iff.mp H; obtain ⟨t897, A60, H⟩ := H; have A6 := Aside0.mk A60; clear A60
  by_cases c7 : t897 = true
  ·
   subst c7; replace H := Eq.trans (if_pos rfl).symm H; replace H := Option.bind_eq_some_iff.mp H; obtain ⟨t898, A80, H⟩ := H; have A8 := Aside0.mk A80; clear A80; have H' := Aside0.mk H; clear H; go_wp2_with (first | ((with_reducible refine gate_callee (f := 89) rfl ?_); refine goesL_ (some 15) rfl rfl Try.func89 kr_ rfl #[.slice A1 l1.length c1] rfl (bc_) ?_; (with_reducible refine (spec_WeightsOk.calls k _ _ l1 true _ ?side1 ?side2 A6.out).mono ?_); (case side1 => exact cc_ (Kd.C_below HR1.out HB.out)); (case side2 => exact HC1.out); rintro e w' ⟨rfl, ⟨nd, rfl⟩⟩; refine ⟨_, rfl, ?_⟩) | (go_at_call 60; (with_reducible refine (spec_l1Some.calls a0 0 t898 _ A8.out).mono ?_); rintro e w' ⟨rfl, ⟨nd, rfl⟩⟩))
   go_meet
   case rel => exact ⟨_, (!t898), (rs_), H', ⟨le_⟩, ⟨pe_ HO896.out⟩, ⟨bb_⟩⟩
  ·
   replace c7 := Bool.eq_false_iff.mpr c7; subst c7; have H' := Aside0.mk (Eq.trans (if_neg nf_).symm H); clear H; go_wp2_with (first | ((with_reducible refine gate_callee (f := 89) rfl ?_); refine goesL_ (some 15) rfl rfl Try.func89 kr_ rfl #[.slice A1 l1.length c1] rfl (bc_) ?_; (with_reducible refine (spec_WeightsOk.calls k _ _ l1 false _ ?side1 ?side2 A6.out).mono ?_); (case side1 => exact cc_ (Kd.C_below HR1.out HB.out)); (case side2 => exact HC1.out); rintro e w' ⟨rfl, ⟨nd, rfl⟩⟩; refine ⟨_, rfl, ?_⟩))
   go_meet
   case rel => exact ⟨_, (true), (rs_), H', ⟨le_⟩, ⟨pe_ HO896.out⟩, ⟨bb_⟩⟩
 case rest =>
  clear HC3; try clear c1
  try clear p2
  try clear c7
  try clear c8
  obtain ⟨kq, x21_2, rfl, HA, HJ2, HO_5, HB⟩ := hcut
  cases kq with
  | zero => exact absurd HA.out (by simp [spec_ShareOrder.j0])
  | succ kj2 =>
   have H := HA.out; clear HA; simp only [spec_ShareOrder.j0] at H
   by_cases c9 : x21_2 = true
   ·
    subst c9; replace H := Eq.trans (if_pos rfl).symm H; obtain rfl := Option.some.inj H; go_wp2; go_ret; exact ⟨_, er_, pe_ HO_5.out, bb_⟩
   ·
    replace c9 := Bool.eq_false_iff.mpr c9; subst c9; replace H := Eq.trans (if_neg nf_).symm H; obtain ⟨y899, hy899⟩ : ∃ y_ : List Int, y_ = (([] : List Int)) := ⟨_, rfl⟩; replace H : (spec_ShareOrder.l0 kj2 a0 l1 y894 y899 0) = some r := rh_ hy899 H; have Ny899 := Aside0.mk hy899; clear hy899; have H' := Aside0.mk H; clear H; go_wp2_with (first | ((with_reducible refine gate_dst (N := 23) rfl ?_); refine Kd.R_lit (Kd.int .i64) _ 3 ?hg (N := 23) ?hd (xs := ([] : List Int)) (inner := []) (ok := fun _ => True) (okp := fun _ => True) ?hr ?hp (fun _ hk => hk) trivial (Below.refl _ _) (Nat.le_refl _) (by simp) ?_; (case hd => rfl); (case hg => rfl); (case hr => first | (go_simp; done) | (go_simp; rfl)); (case hp => exact (Reps.none _ _)); intro v900 w10 ho11 hb hg_ hnew_; clear hg_ hnew_; (first | rw [← Ny899.out] at ho11 | (simp only [Int.reduceToNat] at ho11; rw [← Ny899.out] at ho11)); have n_ := as3_ (Kd.R_elder' (pe_ HO_5.out) (Kd.R_base ho11) hb) (Kd.R_lower (Kd.R_new' ho11 (Kd.R_lt (pe_ HO_5.out))) (below_size (bb_))) (below_step (bb_) hb); clear HO_5 HB; obtain ⟨HO_5, HO901, HB⟩ := n_; clear hb ho11))
    go_loopg [5, 6, 7] kj2 (fun kq v5 v6 v7 w' => ∃ (x5_2 : List Int) (x6_2 : List Int) (x7_2 : Int), v7 = .int .i64 x7_2 ∧ Aside0 (spec_ShareOrder.l0 kq a0 l1 x5_2 x6_2 x7_2 = some r) ∧ Aside0 (kq ≤ kj2) ∧ Aside0 (Kd.R (Kd.int .i64) 3 w' w.heap.size (fun k_ => some k_ ≠ (v6 : Value).ownBlock) v5 x5_2) ∧ Aside0 (Kd.R (Kd.int .i64) 3 w' w.heap.size (fun k_ => some k_ ≠ (v5 : Value).ownBlock) v6 x6_2) ∧ Aside0 (Below w.heap.size w w'))
    case atStart => exact ⟨(y894), (y899), (0), (rs_), H', ⟨Nat.le_refl _⟩, ⟨by (with_reducible repeat (first | apply Kd.R_alloc | apply Kd.R_drewN | apply Kd.R_drew)); exact Kd.R_mono HO_5.out (fun _ hk => hk.2)⟩, ⟨by (with_reducible repeat (first | apply Kd.R_alloc | apply Kd.R_drewN | apply Kd.R_drew)); exact Kd.R_mono HO901.out (fun _ hk => hk.2)⟩, ⟨bb_⟩⟩
    case round =>
     clear H'; (try clear c1); (try clear p2); (try clear c7); (try clear c8); (try clear c9); (try clear p2); obtain ⟨x5_2, x6_2, x7_2, rfl, HA, HK2, HO_5, HO_6, HB⟩ := hrel
     cases gk with
     | zero => exact absurd HA.out (by simp [spec_ShareOrder.l0])
     | succ k2 =>
      have H := HA.out; clear HA; simp only [spec_ShareOrder.l0] at H
      by_cases c12 : x7_2 < (l1.length : Int)
      ·
       rw [if_pos c12] at H; have c12b0 : decide (x7_2 < (l1.length : Int)) = true := decide_eq_true c12; clear c12; replace H := Option.bind_eq_some_iff.mp H; obtain ⟨⟨t902, t903, t904⟩, A130, H⟩ := H; replace H : (if x6_2.length < 17592186044416 then (spec_ShareOrder.l1 k2 a0 l1 x5_2 (x6_2 ++ [t903]) x7_2 t903 (x5_2.length : Int)) else (none)) = some r := H; have A13 := Aside0.mk A130; clear A130
       by_cases c14 : x6_2.length < 17592186044416
       ·
        rw [if_pos c14] at H; have LMc14 := Aside0.mk c14; clear c14; obtain ⟨y905, hy905⟩ : ∃ y_ : List Int, y_ = (x6_2 ++ [t903]) := ⟨_, rfl⟩; replace H : (spec_ShareOrder.l1 k2 a0 l1 x5_2 y905 x7_2 t903 (x5_2.length : Int)) = some r := rh_ hy905 H; have Ny905 := Aside0.mk hy905; clear hy905; have H' := Aside0.mk H; clear H
        go_wp2_with (first | ((with_reducible refine gate_callee (f := 90) rfl ?_); refine goesL_ (some 34) rfl rfl Try.func90 kr_ rfl #[.int .i64 a0, .slice A1 l1.length c1, .int .i64 x7_2] rfl (bc_) ?_; (with_reducible refine (spec_ShareQuota.calls k2 a0 _ _ l1 x7_2 t902 t903 t904 _ ?side1 ?side2 A13.out).mono ?_); (case side1 => exact cc_ (Kd.C_below HR1.out HB.out)); (case side2 => exact HC1.out); rintro e w' ⟨rfl, ⟨nd, rfl⟩⟩; refine ⟨_, rfl, ?_⟩) | ((with_reducible refine gate_builtin (b := .append) (xs := #[.tmp 38, .tmp 40]) rfl ?_); at_builtin; refine Kd.R_append (Kd.int .i64) (w0 := w) w.heap.size rfl (.tmp 38) (.tmp 40) 71 3 (.int .i64 0) 8 rfl Try.underlying71 info3 rfl (by decide) (by omega) u6 x6_2 t903 [.int .i64 t903] (fun k_ => some k_ ≠ (u5 : Value).ownBlock) (fun _ => False) rfl rfl ?aP (fun _ hk => hk.elim) ?aF ?aO ?aB ?aS ?aL ?_; (case aP => exact rfl); (case aB => exact (bb_)); (case aF => exact (fun k_ hk => Kd.fresh' (Kd.R_lt (pe_ HO_5.out)) k_ hk)); (case aO => exact (pe_ HO_6.out)); (case aS => exact (below_size (bb_))); (case aL => have := LMc14.out; omega); intro v906 w15 ho hb hg hat; rw [← Ny905.out] at ho; have n_ := as3_ (Kd.R_after (ok := (fun _ => True)) (by (with_reducible repeat (first | apply Kd.R_alloc | apply Kd.R_drewN | apply Kd.R_drew)); exact Kd.R_mono HO_5.out (fun _ hk => ⟨trivial, hk⟩)) hg hat) (hb) (ho); clear HO_5 HB HO_6; obtain ⟨HO_5, HB, HO907⟩ := n_; clear ho hb hg hat; obtain ⟨Ao16, co16, eo16⟩ := Kd.R_slice HO_5.out; subst eo16))
        go_loopg [11] k2 (fun kq v11 w' => ∃ (x11_3 : Int), v11 = .int .i64 x11_3 ∧ Aside0 (spec_ShareOrder.l1 kq a0 l1 x5_2 y905 x7_2 t903 x11_3 = some r) ∧ Aside0 (kq ≤ k2) ∧ Aside0 (Kd.R (Kd.int .i64) 3 w' w.heap.size (fun k_ => some k_ ≠ (v906 : Value).ownBlock) (.slice Ao16 x5_2.length co16) x5_2) ∧ Aside0 (Kd.R (Kd.int .i64) 3 w' w.heap.size (fun k_ => some k_ ≠ ((.slice Ao16 x5_2.length co16) : Value).ownBlock) v906 y905) ∧ Aside0 (Below w.heap.size w w'))
        case atStart => exact ⟨((x5_2.length : Int)), (rs_), H', ⟨Nat.le_refl _⟩, ⟨by (with_reducible repeat (first | apply Kd.R_alloc | apply Kd.R_drewN | apply Kd.R_drew)); exact Kd.R_mono HO_5.out (fun _ hk => hk.2)⟩, ⟨pe_ HO907.out⟩, ⟨bb_⟩⟩
        case round =>
         clear H'; (try clear c1); (try clear p2); (try clear c7); (try clear c8); (try clear c9); (try clear c12b0); (try clear p2); obtain ⟨x11_3, rfl, HA, HK3, HO_5, HO_6, HB⟩ := hrel
         cases gk with
         | zero => exact absurd HA.out (by simp [spec_ShareOrder.l1])
         | succ k3 =>
          have H := HA.out; clear HA; simp only [spec_ShareOrder.l1] at H
          by_cases c17 : x11_3 > 0
          ·
           rw [if_pos c17] at H; have c17b0 : decide (0 < x11_3) = true := decide_eq_true c17; clear c17; obtain ⟨ji18, hji18⟩ : ∃ j_ : Int, (wrap64 (x11_3 - 1)) = j_ := ⟨_, rfl⟩; replace H : (if 0 ≤ (ji18) then (if (ji18) < (x5_2.length : Int) then (if 0 ≤ (rd x5_2 (ji18)) then (if (rd x5_2 (ji18)) < (y905.length : Int) then (if (rd y905 (rd x5_2 (ji18))) < t903 then (spec_ShareOrder.l1 k3 a0 l1 x5_2 y905 x7_2 t903 ji18) else ((some (([] : List Int) : List Int)).bind fun y910 => (if 0 ≤ x11_3 then (if x11_3 ≤ (x5_2.length : Int) then ((some (x5_2.take (x11_3 : Int).toNat : List Int)).bind fun y913 => (if y910.length + y913.length < 17592186044416 then ((some (y910 ++ y913 : List Int)).bind fun y917 => (if y917.length < 17592186044416 then ((some (y917 ++ [x7_2] : List Int)).bind fun y920 => ((some (x5_2.drop (x11_3 : Int).toNat : List Int)).bind fun y923 => (if y920.length + y923.length < 17592186044416 then (spec_ShareOrder.l0 k3 a0 l1 (y920 ++ y923) y905 (wrap64 (x7_2 + 1))) else (none)))) else (none))) else (none))) else (none)) else (none)))) else (none)) else (none)) else (none)) else (none)) = some r := rj_ hji18 H; have hji18w : (IntKind.i64.wrap (x11_3 - 1)) = ji18 := (i64_w _).trans hji18
           by_cases c19 : 0 ≤ (ji18)
           ·
            rw [if_pos c19] at H; have c19b0 : decide (0 ≤ (ji18)) = true := decide_eq_true c19; clear c19
            by_cases c20 : (ji18) < (x5_2.length : Int)
            ·
             rw [if_pos c20] at H; have c20b0 : decide ((ji18) < (x5_2.length : Int)) = true := decide_eq_true c20; clear c20
             by_cases c21 : 0 ≤ (rd x5_2 (ji18))
             ·
              rw [if_pos c21] at H; have c21b0 : decide (0 ≤ (rd x5_2 (ji18))) = true := decide_eq_true c21; clear c21
              by_cases c22 : (rd x5_2 (ji18)) < (y905.length : Int)
              ·
               rw [if_pos c22] at H; have c22b0 : decide ((rd x5_2 (ji18)) < (y905.length : Int)) = true := decide_eq_true c22; clear c22
               by_cases c23 : (rd y905 (rd x5_2 (ji18))) < t903
               ·
                rw [if_pos c23] at H; have c23b0 : decide ((rd y905 (rd x5_2 (ji18))) < t903) = true := decide_eq_true c23; clear c23; have H' := Aside0.mk H; clear H; have p908 : 0 ≤ ((ji18) : Int) := od_; have q908 : (ji18) < (x5_2.length : Int) := od_; obtain ⟨ad908, e908, hx908_0⟩ := Kd.at_int (Kd.R_reads' HO_5.out).2.2 (ji18) p908 q908; cases e908; replace p908 := eq_true p908; replace q908 := eq_true q908; obtain ⟨Ao24, co24, eo24⟩ := Kd.R_slice HO_6.out; subst eo24; have p909 : 0 ≤ ((rd x5_2 (ji18)) : Int) := od_; have q909 : (rd x5_2 (ji18)) < (y905.length : Int) := od_; obtain ⟨ad909, e909, hx909_0⟩ := Kd.at_int (Kd.R_reads' HO_6.out).2.2 (rd x5_2 (ji18)) p909 q909; cases e909; replace p909 := eq_true p909; replace q909 := eq_true q909; go_wp2; go_roundg k3
                case measure => have := HJ2.out; have := HK2.out; have := HK3.out; omega
                case rel => exact ⟨(ji18), (by first | rfl | (simp; done) | (simp only [← hji18] <;> (first | rfl | simp)) | (simp [*]; done)), H', ⟨by have := HJ2.out; have := HK2.out; have := HK3.out; omega⟩, ⟨pe_ HO_5.out⟩, ⟨pe_ HO_6.out⟩, ⟨bb_⟩⟩
               ·
                rw [if_neg c23] at H; have c23b0 : decide ((rd y905 (rd x5_2 (ji18))) < t903) = false := decide_eq_false c23; clear c23; obtain ⟨y910, hy910⟩ : ∃ y_ : List Int, y_ = (([] : List Int)) := ⟨_, rfl⟩; replace H : (if 0 ≤ x11_3 then (if x11_3 ≤ (x5_2.length : Int) then ((some (x5_2.take (x11_3 : Int).toNat : List Int)).bind fun y913 => (if y910.length + y913.length < 17592186044416 then ((some (y910 ++ y913 : List Int)).bind fun y917 => (if y917.length < 17592186044416 then ((some (y917 ++ [x7_2] : List Int)).bind fun y920 => ((some (x5_2.drop (x11_3 : Int).toNat : List Int)).bind fun y923 => (if y920.length + y923.length < 17592186044416 then (spec_ShareOrder.l0 k3 a0 l1 (y920 ++ y923) y905 (wrap64 (x7_2 + 1))) else (none)))) else (none))) else (none))) else (none)) else (none)) = some r := rh_ hy910 H; have Ny910 := Aside0.mk hy910; clear hy910
                by_cases c25 : 0 ≤ x11_3
                ·
                 rw [if_pos c25] at H; have c25b0 := eq_true c25; have c25b1 : decide (0 ≤ x11_3) = true := decide_eq_true c25; clear c25
                 by_cases c26 : x11_3 ≤ (x5_2.length : Int)
                 ·
                  rw [if_pos c26] at H; have c26b0 := eq_true c26; have c26b1 : decide (x11_3 ≤ (x5_2.length : Int)) = true := decide_eq_true c26; clear c26; obtain ⟨y913, hy913⟩ : ∃ y_ : List Int, y_ = (x5_2.take (x11_3 : Int).toNat) := ⟨_, rfl⟩; replace H : (if y910.length + y913.length < 17592186044416 then ((some (y910 ++ y913 : List Int)).bind fun y917 => (if y917.length < 17592186044416 then ((some (y917 ++ [x7_2] : List Int)).bind fun y920 => ((some (x5_2.drop (x11_3 : Int).toNat : List Int)).bind fun y923 => (if y920.length + y923.length < 17592186044416 then (spec_ShareOrder.l0 k3 a0 l1 (y920 ++ y923) y905 (wrap64 (x7_2 + 1))) else (none)))) else (none))) else (none)) = some r := rh_ hy913 H; have Ny913 := Aside0.mk hy913; clear hy913
                  by_cases c27 : y910.length + y913.length < 17592186044416
                  ·
                   rw [if_pos c27] at H; have LMc27 := Aside0.mk c27; clear c27; obtain ⟨y917, hy917⟩ : ∃ y_ : List Int, y_ = (y910 ++ y913) := ⟨_, rfl⟩; replace H : (if y917.length < 17592186044416 then ((some (y917 ++ [x7_2] : List Int)).bind fun y920 => ((some (x5_2.drop (x11_3 : Int).toNat : List Int)).bind fun y923 => (if y920.length + y923.length < 17592186044416 then (spec_ShareOrder.l0 k3 a0 l1 (y920 ++ y923) y905 (wrap64 (x7_2 + 1))) else (none)))) else (none)) = some r := rh_ hy917 H; have Ny917 := Aside0.mk hy917; clear hy917
                   by_cases c28 : y917.length < 17592186044416
                   ·
                    rw [if_pos c28] at H; have LMc28 := Aside0.mk c28; clear c28; obtain ⟨y920, hy920⟩ : ∃ y_ : List Int, y_ = (y917 ++ [x7_2]) := ⟨_, rfl⟩; replace H : ((some (x5_2.drop (x11_3 : Int).toNat : List Int)).bind fun y923 => (if y920.length + y923.length < 17592186044416 then (spec_ShareOrder.l0 k3 a0 l1 (y920 ++ y923) y905 (wrap64 (x7_2 + 1))) else (none))) = some r := rh_ hy920 H; have Ny920 := Aside0.mk hy920; clear hy920; have c29b0 := eq_true (od_ : 0 ≤ x11_3); have c30b0 := eq_true (od_ : x11_3 ≤ (x5_2.length : Int)); obtain ⟨y923, hy923⟩ : ∃ y_ : List Int, y_ = (x5_2.drop (x11_3 : Int).toNat) := ⟨_, rfl⟩; replace H : (if y920.length + y923.length < 17592186044416 then (spec_ShareOrder.l0 k3 a0 l1 (y920 ++ y923) y905 (wrap64 (x7_2 + 1))) else (none)) = some r := rh_ hy923 H; have Ny923 := Aside0.mk hy923; clear hy923
                    by_cases c31 : y920.length + y923.length < 17592186044416
                    ·
                     rw [if_pos c31] at H; have LMc31 := Aside0.mk c31; clear c31; obtain ⟨y927, hy927⟩ : ∃ y_ : List Int, y_ = (y920 ++ y923) := ⟨_, rfl⟩; replace H : (spec_ShareOrder.l0 k3 a0 l1 y927 y905 (wrap64 (x7_2 + 1))) = some r := rh_ hy927 H; have Ny927 := Aside0.mk hy927; clear hy927; have H' := Aside0.mk H; clear H; have p908 : 0 ≤ ((ji18) : Int) := od_; have q908 : (ji18) < (x5_2.length : Int) := od_; obtain ⟨ad908, e908, hx908_0⟩ := Kd.at_int (Kd.R_reads' HO_5.out).2.2 (ji18) p908 q908; cases e908; replace p908 := eq_true p908; replace q908 := eq_true q908; obtain ⟨Ao32, co32, eo32⟩ := Kd.R_slice HO_6.out; subst eo32; have p909 : 0 ≤ ((rd x5_2 (ji18)) : Int) := od_; have q909 : (rd x5_2 (ji18)) < (y905.length : Int) := od_; obtain ⟨ad909, e909, hx909_0⟩ := Kd.at_int (Kd.R_reads' HO_6.out).2.2 (rd x5_2 (ji18)) p909 q909; cases e909; replace p909 := eq_true p909; replace q909 := eq_true q909
                     go_wp2_with (first | ((with_reducible refine gate_dst (N := 60) rfl ?_); refine Kd.R_lit (Kd.int .i64) _ 3 ?hg (N := 60) ?hd (xs := ([] : List Int)) (inner := []) (ok := fun _ => True) (okp := fun _ => True) ?hr ?hp (fun _ hk => hk) trivial (Below.refl _ _) (Nat.le_refl _) (by simp) ?_; (case hd => rfl); (case hg => rfl); (case hr => first | (go_simp; done) | (go_simp; rfl)); (case hp => exact (Reps.none _ _)); intro v911 w33 ho34 hb hg_ hnew_; clear hg_ hnew_; (first | rw [← Ny910.out] at ho34 | (simp only [Int.reduceToNat] at ho34; rw [← Ny910.out] at ho34)); have n_ := as4_ (Kd.R_elder' (pe_ HO_5.out) (Kd.R_base ho34) hb) (Kd.R_elder' (pe_ HO_6.out) (Kd.R_base ho34) hb) (Kd.R_lower (Kd.R_new' (Kd.R_new' ho34 (Kd.R_lt (pe_ HO_5.out))) (Kd.R_lt (pe_ HO_6.out))) (below_size (bb_))) (below_step (bb_) hb); clear HO_5 HO_6 HB; obtain ⟨HO_5, HO_6, HO912, HB⟩ := n_; clear hb ho34; have q35 : (x11_3 : Int) ≤ ((x5_2.length : Int) : Int) := od_; obtain ⟨i035, hi035, _, hsz35, _⟩ := info_parts info3; have hroom35 : x5_2.length ≤ co16 := (Kd.R_reads' HO_5.out).2.1; have hC35 : Kd.C (Kd.int .i64) _ (some ad908) x5_2.length x5_2 := (Kd.R_reads' HO_5.out).2.2; have hcut35 := cut_to (P := Try.prog) 71 3 .i64 Try.underlying71 hi035 (some ad908) x5_2.length co16 x11_3 (od_) q35 hroom35; have hr35 := Kd.C_take (m := (x11_3 : Int).toNat) hC35 (by omega); have hy35 : y913.length = (x11_3 : Int).toNat := (by rw [Ny913.out, List.length_take]; omega); rw [← Ny913.out] at hr35; rw [← hy35] at hcut35; have HR916 := Aside0.mk hr35; have HC916 := Aside0.mk (show y913.length ≤ co16 from by omega); clear hr35 hC35 hroom35 hi035 hsz35; have KY35 := Aside0.mk hy35; clear hy35; have KL35 := Aside0.mk (show (x11_3 : Int).toNat ≤ x5_2.length from by omega); replace q35 := eq_true q35) | ((with_reducible refine gate_builtin (b := .append) (xs := #[.tmp 60, .tmp 63]) rfl ?_); at_builtin; refine Kd.R_append_rows (Kd.int .i64) (w0 := w) w.heap.size rfl (.tmp 60) (.tmp 63) 71 3 (.int .i64 0) 8 rfl Try.underlying71 info3 rfl (by decide) (by omega) v911 y910 y913 _ _ _ (fun k_ => some k_ ≠ (.slice (some ad908) x5_2.length co16 : Value).ownBlock ∧ some k_ ≠ (.slice (some ad909) y905.length co32 : Value).ownBlock) (fun _ => False) rfl rfl ?aO ?aR (fun _ _ h => h) (fun _ h => h.elim) ?aF ?aB ?aS ?aL ?_; (case aR => repeat (first | exact (by repeat (first | (with_reducible exact HR916.out) | (with_reducible refine Kd.C_alloc ?_ _) | (with_reducible refine Kd.C_drewN ?_ _) | (with_reducible refine Kd.C_drew ?_) | exact HR916.out)) | (with_reducible refine Kd.C_alloc ?_ _) | (with_reducible refine Kd.C_drewN ?_ _) | (with_reducible refine Kd.C_drew ?_))); (case aB => exact (bb_)); (case aF => exact (fun k_ hk => ⟨Kd.fresh' (Kd.R_lt (pe_ HO_5.out)) k_ hk, Kd.fresh' (Kd.R_lt (pe_ HO_6.out)) k_ hk⟩)); (case aO => exact (by (with_reducible repeat (first | apply Kd.R_alloc | apply Kd.R_drewN | apply Kd.R_drew)); exact Kd.R_mono HO912.out (fun _ hk => ⟨hk.1.2, hk.2⟩))); (case aS => exact (below_size (bb_))); (case aL => have := LMc27.out; omega); intro v918 w36 ho hb hg hat; rw [← Ny917.out] at ho; have n_ := as5_ (Kd.R_after (ok := (fun k_ => some k_ ≠ (.slice (some ad909) y905.length co32 : Value).ownBlock)) (pe_ HO_5.out) hg hat) (Kd.R_after (ok := (fun k_ => some k_ ≠ (.slice (some ad908) x5_2.length co16 : Value).ownBlock)) (pe_ HO_6.out) hg hat) (hb) ((show Kd.C (Kd.int .i64) w36 (some ad908) y913.length y913 from by rw [Ny913.out]; exact Kd.C_take (m := (x11_3 : Int).toNat) ((Kd.R_reads' (Kd.R_after (ok := (fun k_ => some k_ ≠ (.slice (some ad909) y905.length co32 : Value).ownBlock)) (pe_ HO_5.out) hg hat)).2.2) KL35.out)) (ho); clear HO_5 HO_6 HB HR916 HO912; obtain ⟨HO_5, HO_6, HB, HR916, HO919⟩ := n_; clear ho hb hg hat) | ((with_reducible refine gate_builtin (b := .append) (xs := #[.tmp 65, .tmp 67]) rfl ?_); at_builtin; refine Kd.R_append (Kd.int .i64) (w0 := w) w.heap.size rfl (.tmp 65) (.tmp 67) 71 3 (.int .i64 0) 8 rfl Try.underlying71 info3 rfl (by decide) (by omega) v918 y917 x7_2 [.int .i64 x7_2] (fun k_ => some k_ ≠ (.slice (some ad908) x5_2.length co16 : Value).ownBlock ∧ some k_ ≠ (.slice (some ad909) y905.length co32 : Value).ownBlock) (fun _ => False) rfl rfl ?aP (fun _ hk => hk.elim) ?aF ?aO ?aB ?aS ?aL ?_; (case aP => exact rfl); (case aB => exact (bb_)); (case aF => exact (fun k_ hk => ⟨Kd.fresh' (Kd.R_lt (pe_ HO_5.out)) k_ hk, Kd.fresh' (Kd.R_lt (pe_ HO_6.out)) k_ hk⟩)); (case aO => exact (pe_ HO919.out)); (case aS => exact (below_size (bb_))); (case aL => have := LMc28.out; omega); intro v921 w37 ho hb hg hat; rw [← Ny920.out] at ho; have n_ := as5_ (Kd.R_after (ok := (fun k_ => some k_ ≠ (.slice (some ad909) y905.length co32 : Value).ownBlock)) (pe_ HO_5.out) hg hat) (Kd.R_after (ok := (fun k_ => some k_ ≠ (.slice (some ad908) x5_2.length co16 : Value).ownBlock)) (pe_ HO_6.out) hg hat) (hb) ((show Kd.C (Kd.int .i64) w37 (some ad908) y913.length y913 from by rw [Ny913.out]; exact Kd.C_take (m := (x11_3 : Int).toNat) ((Kd.R_reads' (Kd.R_after (ok := (fun k_ => some k_ ≠ (.slice (some ad909) y905.length co32 : Value).ownBlock)) (pe_ HO_5.out) hg hat)).2.2) KL35.out)) (ho); clear HO_5 HO_6 HB HR916 HO919; obtain ⟨HO_5, HO_6, HB, HR916, HO922⟩ := n_; clear ho hb hg hat; have q38 : (x11_3 : Int) ≤ ((x5_2.length : Int) : Int) := od_; obtain ⟨i038, hi038, _, hsz38, _⟩ := info_parts info3; have hroom38 : x5_2.length ≤ co16 := (Kd.R_reads' HO_5.out).2.1; have hC38 : Kd.C (Kd.int .i64) _ (some ad908) x5_2.length x5_2 := (Kd.R_reads' HO_5.out).2.2; have q038 : (0 : Int) ≤ (x11_3 : Int) := od_; have hcut38 := cut_from (P := Try.prog) 71 3 .i64 Try.underlying71 hi038 1 hsz38 (some ad908) x5_2.length co16 x11_3 q038 q38; have hr38 := Kd.C_drop (m := (x11_3 : Int).toNat) (c := co16) hC38 (by omega) hroom38; obtain ⟨A38, hA38⟩ : ∃ A1, A1 = (if co16 = (x11_3 : Int).toNat then (some ad908) else ((some ad908) : Option Addr).map (·.add ((x11_3 : Int).toNat * 1))) := ⟨_, rfl⟩; obtain ⟨c38, hc38⟩ : ∃ c1, c1 = co16 - (x11_3 : Int).toNat := ⟨_, rfl⟩; have hy38 : y923.length = x5_2.length - (x11_3 : Int).toNat := (by rw [Ny923.out, List.length_drop] <;> omega); rw [show (x5_2).drop (x11_3 : Int).toNat = y923 from Ny923.out.symm] at hr38; replace hr38 : Kd.C (Kd.int .i64) _ A38 y923.length y923 := (by rw [hA38]; exact hr38); rw [← hy38, ← hA38, ← hc38] at hcut38; have HR926 := Aside0.mk hr38; have HC926 := Aside0.mk (show y923.length ≤ c38 from by rw [hy38, hc38]; exact Nat.sub_le_sub_right hroom38 _); clear hr38 hC38 hroom38 hi038 hsz38 hc38; have KY38 := Aside0.mk hy38; have KA38 := Aside0.mk hA38; clear hy38 hA38; have KL38 := Aside0.mk (show (x11_3 : Int).toNat ≤ x5_2.length from by omega); replace q38 := eq_true q38) | ((with_reducible refine gate_builtin (b := .append) (xs := #[.tmp 69, .tmp 72]) rfl ?_); at_builtin; refine Kd.R_append_rows (Kd.int .i64) (w0 := w) w.heap.size rfl (.tmp 69) (.tmp 72) 71 3 (.int .i64 0) 8 rfl Try.underlying71 info3 rfl (by decide) (by omega) v921 y920 y923 _ _ _ (fun k_ => some k_ ≠ (.slice (some ad908) x5_2.length co16 : Value).ownBlock ∧ some k_ ≠ (.slice (some ad909) y905.length co32 : Value).ownBlock) (fun _ => False) rfl rfl ?aO ?aR (fun _ _ h => h) (fun _ h => h.elim) ?aF ?aB ?aS ?aL ?_; (case aR => repeat (first | exact (by repeat (first | (with_reducible exact HR926.out) | (with_reducible refine Kd.C_alloc ?_ _) | (with_reducible refine Kd.C_drewN ?_ _) | (with_reducible refine Kd.C_drew ?_) | exact HR926.out)) | (with_reducible refine Kd.C_alloc ?_ _) | (with_reducible refine Kd.C_drewN ?_ _) | (with_reducible refine Kd.C_drew ?_))); (case aB => exact (bb_)); (case aF => exact (fun k_ hk => ⟨Kd.fresh' (Kd.R_lt (pe_ HO_5.out)) k_ hk, Kd.fresh' (Kd.R_lt (pe_ HO_6.out)) k_ hk⟩)); (case aO => exact (pe_ HO922.out)); (case aS => exact (below_size (bb_))); (case aL => have := LMc31.out; omega); intro v928 w39 ho hb hg hat; rw [← Ny927.out] at ho; have n_ := as6_ (Kd.R_after (ok := (fun k_ => some k_ ≠ (.slice (some ad909) y905.length co32 : Value).ownBlock)) (pe_ HO_5.out) hg hat) (Kd.R_after (ok := (fun k_ => some k_ ≠ (.slice (some ad908) x5_2.length co16 : Value).ownBlock)) (pe_ HO_6.out) hg hat) (hb) ((show Kd.C (Kd.int .i64) w39 (some ad908) y913.length y913 from by rw [Ny913.out]; exact Kd.C_take (m := (x11_3 : Int).toNat) ((Kd.R_reads' (Kd.R_after (ok := (fun k_ => some k_ ≠ (.slice (some ad909) y905.length co32 : Value).ownBlock)) (pe_ HO_5.out) hg hat)).2.2) KL35.out)) ((show Kd.C (Kd.int .i64) w39 A38 y923.length y923 from by rw [Ny923.out, KA38.out]; exact Kd.C_drop (m := (x11_3 : Int).toNat) (c := co16) ((Kd.R_reads' (Kd.R_after (ok := (fun k_ => some k_ ≠ (.slice (some ad909) y905.length co32 : Value).ownBlock)) (pe_ HO_5.out) hg hat)).2.2) KL38.out ((Kd.R_reads' (Kd.R_after (ok := (fun k_ => some k_ ≠ (.slice (some ad909) y905.length co32 : Value).ownBlock)) (pe_ HO_5.out) hg hat)).2.1))) (ho); clear HO_5 HO_6 HB HR916 HR926 HO922; obtain ⟨HO_5, HO_6, HB, HR916, HR926, HO929⟩ := n_; clear ho hb hg hat))
                     go_roundg k3
                     case measure => have := HJ2.out; have := HK2.out; have := HK3.out; omega
                     case rel => exact ⟨(y927), (y905), (wrap64 (x7_2 + 1)), (rs_), H', ⟨by have := HJ2.out; have := HK2.out; have := HK3.out; omega⟩, ⟨by (with_reducible repeat (first | apply Kd.R_alloc | apply Kd.R_drewN | apply Kd.R_drew)); exact Kd.R_mono HO929.out (fun _ hk => hk.2)⟩, ⟨by (with_reducible repeat (first | apply Kd.R_alloc | apply Kd.R_drewN | apply Kd.R_drew)); exact Kd.R_mono HO_6.out (fun _ hk => hk.2)⟩, ⟨bb_⟩⟩
                    ·
                     rw [if_neg c31] at H; exact absurd H (by simp)
                   ·
                    rw [if_neg c28] at H; exact absurd H (by simp)
                  ·
                   rw [if_neg c27] at H; exact absurd H (by simp)
                 ·
                  rw [if_neg c26] at H; exact absurd H (by simp)
                ·
                 rw [if_neg c25] at H; exact absurd H (by simp)
              ·
               rw [if_neg c22] at H; exact absurd H (by simp)
             ·
              rw [if_neg c21] at H; exact absurd H (by simp)
            ·
             rw [if_neg c20] at H; exact absurd H (by simp)
           ·
            rw [if_neg c19] at H; exact absurd H (by simp)
          ·
           rw [if_neg c17] at H; have c17b0 : decide (0 < x11_3) = false := decide_eq_false c17; clear c17; obtain ⟨y930, hy930⟩ : ∃ y_ : List Int, y_ = (([] : List Int)) := ⟨_, rfl⟩; replace H : (if 0 ≤ x11_3 then (if x11_3 ≤ (x5_2.length : Int) then ((some (x5_2.take (x11_3 : Int).toNat : List Int)).bind fun y933 => (if y930.length + y933.length < 17592186044416 then ((some (y930 ++ y933 : List Int)).bind fun y937 => (if y937.length < 17592186044416 then ((some (y937 ++ [x7_2] : List Int)).bind fun y940 => ((some (x5_2.drop (x11_3 : Int).toNat : List Int)).bind fun y943 => (if y940.length + y943.length < 17592186044416 then (spec_ShareOrder.l0 k3 a0 l1 (y940 ++ y943) y905 (wrap64 (x7_2 + 1))) else (none)))) else (none))) else (none))) else (none)) else (none)) = some r := rh_ hy930 H; have Ny930 := Aside0.mk hy930; clear hy930
           by_cases c40 : 0 ≤ x11_3
           ·
            rw [if_pos c40] at H; have c40b0 := eq_true c40; have c40b1 : decide (0 ≤ x11_3) = true := decide_eq_true c40; clear c40
            by_cases c41 : x11_3 ≤ (x5_2.length : Int)
            ·
             rw [if_pos c41] at H; have c41b0 := eq_true c41; have c41b1 : decide (x11_3 ≤ (x5_2.length : Int)) = true := decide_eq_true c41; clear c41; obtain ⟨y933, hy933⟩ : ∃ y_ : List Int, y_ = (x5_2.take (x11_3 : Int).toNat) := ⟨_, rfl⟩; replace H : (if y930.length + y933.length < 17592186044416 then ((some (y930 ++ y933 : List Int)).bind fun y937 => (if y937.length < 17592186044416 then ((some (y937 ++ [x7_2] : List Int)).bind fun y940 => ((some (x5_2.drop (x11_3 : Int).toNat : List Int)).bind fun y943 => (if y940.length + y943.length < 17592186044416 then (spec_ShareOrder.l0 k3 a0 l1 (y940 ++ y943) y905 (wrap64 (x7_2 + 1))) else (none)))) else (none))) else (none)) = some r := rh_ hy933 H; have Ny933 := Aside0.mk hy933; clear hy933
             by_cases c42 : y930.length + y933.length < 17592186044416
             ·
              rw [if_pos c42] at H; have LMc42 := Aside0.mk c42; clear c42; obtain ⟨y937, hy937⟩ : ∃ y_ : List Int, y_ = (y930 ++ y933) := ⟨_, rfl⟩; replace H : (if y937.length < 17592186044416 then ((some (y937 ++ [x7_2] : List Int)).bind fun y940 => ((some (x5_2.drop (x11_3 : Int).toNat : List Int)).bind fun y943 => (if y940.length + y943.length < 17592186044416 then (spec_ShareOrder.l0 k3 a0 l1 (y940 ++ y943) y905 (wrap64 (x7_2 + 1))) else (none)))) else (none)) = some r := rh_ hy937 H; have Ny937 := Aside0.mk hy937; clear hy937
              by_cases c43 : y937.length < 17592186044416
              ·
               rw [if_pos c43] at H; have LMc43 := Aside0.mk c43; clear c43; obtain ⟨y940, hy940⟩ : ∃ y_ : List Int, y_ = (y937 ++ [x7_2]) := ⟨_, rfl⟩; replace H : ((some (x5_2.drop (x11_3 : Int).toNat : List Int)).bind fun y943 => (if y940.length + y943.length < 17592186044416 then (spec_ShareOrder.l0 k3 a0 l1 (y940 ++ y943) y905 (wrap64 (x7_2 + 1))) else (none))) = some r := rh_ hy940 H; have Ny940 := Aside0.mk hy940; clear hy940; have c44b0 := eq_true (od_ : 0 ≤ x11_3); have c45b0 := eq_true (od_ : x11_3 ≤ (x5_2.length : Int)); obtain ⟨y943, hy943⟩ : ∃ y_ : List Int, y_ = (x5_2.drop (x11_3 : Int).toNat) := ⟨_, rfl⟩; replace H : (if y940.length + y943.length < 17592186044416 then (spec_ShareOrder.l0 k3 a0 l1 (y940 ++ y943) y905 (wrap64 (x7_2 + 1))) else (none)) = some r := rh_ hy943 H; have Ny943 := Aside0.mk hy943; clear hy943
               by_cases c46 : y940.length + y943.length < 17592186044416
               ·
                rw [if_pos c46] at H; have LMc46 := Aside0.mk c46; clear c46; obtain ⟨y947, hy947⟩ : ∃ y_ : List Int, y_ = (y940 ++ y943) := ⟨_, rfl⟩; replace H : (spec_ShareOrder.l0 k3 a0 l1 y947 y905 (wrap64 (x7_2 + 1))) = some r := rh_ hy947 H; have Ny947 := Aside0.mk hy947; clear hy947; have H' := Aside0.mk H; clear H
                go_wp2_with (first | ((with_reducible refine gate_dst (N := 60) rfl ?_); refine Kd.R_lit (Kd.int .i64) _ 3 ?hg (N := 60) ?hd (xs := ([] : List Int)) (inner := []) (ok := fun _ => True) (okp := fun _ => True) ?hr ?hp (fun _ hk => hk) trivial (Below.refl _ _) (Nat.le_refl _) (by simp) ?_; (case hd => rfl); (case hg => rfl); (case hr => first | (go_simp; done) | (go_simp; rfl)); (case hp => exact (Reps.none _ _)); intro v931 w47 ho48 hb hg_ hnew_; clear hg_ hnew_; (first | rw [← Ny930.out] at ho48 | (simp only [Int.reduceToNat] at ho48; rw [← Ny930.out] at ho48)); have n_ := as4_ (Kd.R_elder' (pe_ HO_5.out) (Kd.R_base ho48) hb) (Kd.R_elder' (pe_ HO_6.out) (Kd.R_base ho48) hb) (Kd.R_lower (Kd.R_new' (Kd.R_new' ho48 (Kd.R_lt (pe_ HO_5.out))) (Kd.R_lt (pe_ HO_6.out))) (below_size (bb_))) (below_step (bb_) hb); clear HO_5 HO_6 HB; obtain ⟨HO_5, HO_6, HO932, HB⟩ := n_; clear hb ho48; have q49 : (x11_3 : Int) ≤ ((x5_2.length : Int) : Int) := od_; obtain ⟨i049, hi049, _, hsz49, _⟩ := info_parts info3; have hroom49 : x5_2.length ≤ co16 := (Kd.R_reads' HO_5.out).2.1; have hC49 : Kd.C (Kd.int .i64) _ Ao16 x5_2.length x5_2 := (Kd.R_reads' HO_5.out).2.2; have hcut49 := cut_to (P := Try.prog) 71 3 .i64 Try.underlying71 hi049 Ao16 x5_2.length co16 x11_3 (od_) q49 hroom49; have hr49 := Kd.C_take (m := (x11_3 : Int).toNat) hC49 (by omega); have hy49 : y933.length = (x11_3 : Int).toNat := (by rw [Ny933.out, List.length_take]; omega); rw [← Ny933.out] at hr49; rw [← hy49] at hcut49; have HR936 := Aside0.mk hr49; have HC936 := Aside0.mk (show y933.length ≤ co16 from by omega); clear hr49 hC49 hroom49 hi049 hsz49; have KY49 := Aside0.mk hy49; clear hy49; have KL49 := Aside0.mk (show (x11_3 : Int).toNat ≤ x5_2.length from by omega); replace q49 := eq_true q49) | ((with_reducible refine gate_builtin (b := .append) (xs := #[.tmp 60, .tmp 63]) rfl ?_); at_builtin; refine Kd.R_append_rows (Kd.int .i64) (w0 := w) w.heap.size rfl (.tmp 60) (.tmp 63) 71 3 (.int .i64 0) 8 rfl Try.underlying71 info3 rfl (by decide) (by omega) v931 y930 y933 _ _ _ (fun k_ => some k_ ≠ (.slice Ao16 x5_2.length co16 : Value).ownBlock ∧ some k_ ≠ (v906 : Value).ownBlock) (fun _ => False) rfl rfl ?aO ?aR (fun _ _ h => h) (fun _ h => h.elim) ?aF ?aB ?aS ?aL ?_; (case aR => repeat (first | exact (by repeat (first | (with_reducible exact HR936.out) | (with_reducible refine Kd.C_alloc ?_ _) | (with_reducible refine Kd.C_drewN ?_ _) | (with_reducible refine Kd.C_drew ?_) | exact HR936.out)) | (with_reducible refine Kd.C_alloc ?_ _) | (with_reducible refine Kd.C_drewN ?_ _) | (with_reducible refine Kd.C_drew ?_))); (case aB => exact (bb_)); (case aF => exact (fun k_ hk => ⟨Kd.fresh' (Kd.R_lt (pe_ HO_5.out)) k_ hk, Kd.fresh' (Kd.R_lt (pe_ HO_6.out)) k_ hk⟩)); (case aO => exact (by (with_reducible repeat (first | apply Kd.R_alloc | apply Kd.R_drewN | apply Kd.R_drew)); exact Kd.R_mono HO932.out (fun _ hk => ⟨hk.1.2, hk.2⟩))); (case aS => exact (below_size (bb_))); (case aL => have := LMc42.out; omega); intro v938 w50 ho hb hg hat; rw [← Ny937.out] at ho; have n_ := as5_ (Kd.R_after (ok := (fun k_ => some k_ ≠ (v906 : Value).ownBlock)) (pe_ HO_5.out) hg hat) (Kd.R_after (ok := (fun k_ => some k_ ≠ (.slice Ao16 x5_2.length co16 : Value).ownBlock)) (pe_ HO_6.out) hg hat) (hb) ((show Kd.C (Kd.int .i64) w50 Ao16 y933.length y933 from by rw [Ny933.out]; exact Kd.C_take (m := (x11_3 : Int).toNat) ((Kd.R_reads' (Kd.R_after (ok := (fun k_ => some k_ ≠ (v906 : Value).ownBlock)) (pe_ HO_5.out) hg hat)).2.2) KL49.out)) (ho); clear HO_5 HO_6 HB HR936 HO932; obtain ⟨HO_5, HO_6, HB, HR936, HO939⟩ := n_; clear ho hb hg hat) | ((with_reducible refine gate_builtin (b := .append) (xs := #[.tmp 65, .tmp 67]) rfl ?_); at_builtin; refine Kd.R_append (Kd.int .i64) (w0 := w) w.heap.size rfl (.tmp 65) (.tmp 67) 71 3 (.int .i64 0) 8 rfl Try.underlying71 info3 rfl (by decide) (by omega) v938 y937 x7_2 [.int .i64 x7_2] (fun k_ => some k_ ≠ (.slice Ao16 x5_2.length co16 : Value).ownBlock ∧ some k_ ≠ (v906 : Value).ownBlock) (fun _ => False) rfl rfl ?aP (fun _ hk => hk.elim) ?aF ?aO ?aB ?aS ?aL ?_; (case aP => exact rfl); (case aB => exact (bb_)); (case aF => exact (fun k_ hk => ⟨Kd.fresh' (Kd.R_lt (pe_ HO_5.out)) k_ hk, Kd.fresh' (Kd.R_lt (pe_ HO_6.out)) k_ hk⟩)); (case aO => exact (pe_ HO939.out)); (case aS => exact (below_size (bb_))); (case aL => have := LMc43.out; omega); intro v941 w51 ho hb hg hat; rw [← Ny940.out] at ho; have n_ := as5_ (Kd.R_after (ok := (fun k_ => some k_ ≠ (v906 : Value).ownBlock)) (pe_ HO_5.out) hg hat) (Kd.R_after (ok := (fun k_ => some k_ ≠ (.slice Ao16 x5_2.length co16 : Value).ownBlock)) (pe_ HO_6.out) hg hat) (hb) ((show Kd.C (Kd.int .i64) w51 Ao16 y933.length y933 from by rw [Ny933.out]; exact Kd.C_take (m := (x11_3 : Int).toNat) ((Kd.R_reads' (Kd.R_after (ok := (fun k_ => some k_ ≠ (v906 : Value).ownBlock)) (pe_ HO_5.out) hg hat)).2.2) KL49.out)) (ho); clear HO_5 HO_6 HB HR936 HO939; obtain ⟨HO_5, HO_6, HB, HR936, HO942⟩ := n_; clear ho hb hg hat; have q52 : (x11_3 : Int) ≤ ((x5_2.length : Int) : Int) := od_; obtain ⟨i052, hi052, _, hsz52, _⟩ := info_parts info3; have hroom52 : x5_2.length ≤ co16 := (Kd.R_reads' HO_5.out).2.1; have hC52 : Kd.C (Kd.int .i64) _ Ao16 x5_2.length x5_2 := (Kd.R_reads' HO_5.out).2.2; have q052 : (0 : Int) ≤ (x11_3 : Int) := od_; have hcut52 := cut_from (P := Try.prog) 71 3 .i64 Try.underlying71 hi052 1 hsz52 Ao16 x5_2.length co16 x11_3 q052 q52; have hr52 := Kd.C_drop (m := (x11_3 : Int).toNat) (c := co16) hC52 (by omega) hroom52; obtain ⟨A52, hA52⟩ : ∃ A1, A1 = (if co16 = (x11_3 : Int).toNat then Ao16 else (Ao16 : Option Addr).map (·.add ((x11_3 : Int).toNat * 1))) := ⟨_, rfl⟩; obtain ⟨c52, hc52⟩ : ∃ c1, c1 = co16 - (x11_3 : Int).toNat := ⟨_, rfl⟩; have hy52 : y943.length = x5_2.length - (x11_3 : Int).toNat := (by rw [Ny943.out, List.length_drop] <;> omega); rw [show (x5_2).drop (x11_3 : Int).toNat = y943 from Ny943.out.symm] at hr52; replace hr52 : Kd.C (Kd.int .i64) _ A52 y943.length y943 := (by rw [hA52]; exact hr52); rw [← hy52, ← hA52, ← hc52] at hcut52; have HR946 := Aside0.mk hr52; have HC946 := Aside0.mk (show y943.length ≤ c52 from by rw [hy52, hc52]; exact Nat.sub_le_sub_right hroom52 _); clear hr52 hC52 hroom52 hi052 hsz52 hc52; have KY52 := Aside0.mk hy52; have KA52 := Aside0.mk hA52; clear hy52 hA52; have KL52 := Aside0.mk (show (x11_3 : Int).toNat ≤ x5_2.length from by omega); replace q52 := eq_true q52) | ((with_reducible refine gate_builtin (b := .append) (xs := #[.tmp 69, .tmp 72]) rfl ?_); at_builtin; refine Kd.R_append_rows (Kd.int .i64) (w0 := w) w.heap.size rfl (.tmp 69) (.tmp 72) 71 3 (.int .i64 0) 8 rfl Try.underlying71 info3 rfl (by decide) (by omega) v941 y940 y943 _ _ _ (fun k_ => some k_ ≠ (.slice Ao16 x5_2.length co16 : Value).ownBlock ∧ some k_ ≠ (v906 : Value).ownBlock) (fun _ => False) rfl rfl ?aO ?aR (fun _ _ h => h) (fun _ h => h.elim) ?aF ?aB ?aS ?aL ?_; (case aR => repeat (first | exact (by repeat (first | (with_reducible exact HR946.out) | (with_reducible refine Kd.C_alloc ?_ _) | (with_reducible refine Kd.C_drewN ?_ _) | (with_reducible refine Kd.C_drew ?_) | exact HR946.out)) | (with_reducible refine Kd.C_alloc ?_ _) | (with_reducible refine Kd.C_drewN ?_ _) | (with_reducible refine Kd.C_drew ?_))); (case aB => exact (bb_)); (case aF => exact (fun k_ hk => ⟨Kd.fresh' (Kd.R_lt (pe_ HO_5.out)) k_ hk, Kd.fresh' (Kd.R_lt (pe_ HO_6.out)) k_ hk⟩)); (case aO => exact (pe_ HO942.out)); (case aS => exact (below_size (bb_))); (case aL => have := LMc46.out; omega); intro v948 w53 ho hb hg hat; rw [← Ny947.out] at ho; have n_ := as6_ (Kd.R_after (ok := (fun k_ => some k_ ≠ (v906 : Value).ownBlock)) (pe_ HO_5.out) hg hat) (Kd.R_after (ok := (fun k_ => some k_ ≠ (.slice Ao16 x5_2.length co16 : Value).ownBlock)) (pe_ HO_6.out) hg hat) (hb) ((show Kd.C (Kd.int .i64) w53 Ao16 y933.length y933 from by rw [Ny933.out]; exact Kd.C_take (m := (x11_3 : Int).toNat) ((Kd.R_reads' (Kd.R_after (ok := (fun k_ => some k_ ≠ (v906 : Value).ownBlock)) (pe_ HO_5.out) hg hat)).2.2) KL49.out)) ((show Kd.C (Kd.int .i64) w53 A52 y943.length y943 from by rw [Ny943.out, KA52.out]; exact Kd.C_drop (m := (x11_3 : Int).toNat) (c := co16) ((Kd.R_reads' (Kd.R_after (ok := (fun k_ => some k_ ≠ (v906 : Value).ownBlock)) (pe_ HO_5.out) hg hat)).2.2) KL52.out ((Kd.R_reads' (Kd.R_after (ok := (fun k_ => some k_ ≠ (v906 : Value).ownBlock)) (pe_ HO_5.out) hg hat)).2.1))) (ho); clear HO_5 HO_6 HB HR936 HR946 HO942; obtain ⟨HO_5, HO_6, HB, HR936, HR946, HO949⟩ := n_; clear ho hb hg hat))
                go_roundg k3
                case measure => have := HJ2.out; have := HK2.out; have := HK3.out; omega
                case rel => exact ⟨(y947), (y905), (wrap64 (x7_2 + 1)), (rs_), H', ⟨by have := HJ2.out; have := HK2.out; have := HK3.out; omega⟩, ⟨by (with_reducible repeat (first | apply Kd.R_alloc | apply Kd.R_drewN | apply Kd.R_drew)); exact Kd.R_mono HO949.out (fun _ hk => hk.2)⟩, ⟨by (with_reducible repeat (first | apply Kd.R_alloc | apply Kd.R_drewN | apply Kd.R_drew)); exact Kd.R_mono HO_6.out (fun _ hk => hk.2)⟩, ⟨bb_⟩⟩
               ·
                rw [if_neg c46] at H; exact absurd H (by simp)
              ·
               rw [if_neg c43] at H; exact absurd H (by simp)
             ·
              rw [if_neg c42] at H; exact absurd H (by simp)
            ·
             rw [if_neg c41] at H; exact absurd H (by simp)
           ·
            rw [if_neg c40] at H; exact absurd H (by simp)
       ·
        rw [if_neg c14] at H; exact absurd H (by simp)
      ·
       rw [if_neg c12] at H; have c12b0 : decide (x7_2 < (l1.length : Int)) = false := decide_eq_false c12; clear c12; obtain rfl := Option.some.inj H; go_wp2; go_ret; exact ⟨_, er_, by (with_reducible repeat (first | apply Kd.R_alloc | apply Kd.R_drewN | apply Kd.R_drew)); exact Kd.R_mono HO_5.out (fun _ hk => trivial), bb_⟩
end Go.Proofs.Ytomanpmffjkkgaa.P
namespace Go.Proofs.Ytomanpmffjkkgaa.P
open Go.RowKit Go.Proofs.YtomanpmffjkkgaaW.PrintWords Go.Proofs.YtomanpmffjkkgaaW.PrintLast Go.Proofs.YtomanpmffjkkgaaW.PrintMore
attribute [local go_sem] max2_int min2_int max_two min_two max_three min_three max_four min_four   -- for this text's walks alone
set_option linter.unusedVariables false
set_option linter.unusedSimpArgs false
mutual
def spec_Shares.j0 : Nat → Int → List Int → List Int → Bool → Option (List Int × Bool)
 | 0, _, _, _, _ => none
 | k + 1, x0, x1, x6, x22 => if x22 = true then (some (x6, false)) else (spec_Shares.l0 k x0 x1 x6 x0 0)
def spec_Shares.l0 : Nat → Int → List Int → List Int → Int → Int → Option (List Int × Bool)
 | 0, _, _, _, _, _ => none
 | k + 1, x0, x1, x6, x7, x8 => if x8 < (x1.length : Int) then ((spec_ShareQuota.f k x0 x1 x8).bind fun bt955 => (if x6.length < 17592186044416 then (spec_Shares.l0 k x0 x1 (x6 ++ [bt955.1]) (wrap64 (x7 - bt955.1)) (wrap64 (x8 + 1))) else (none))) else ((spec_ShareOrder.f k x0 x1).bind fun t961 => (spec_Shares.l1 k x6 x7 t961 0))
def spec_Shares.l1 : Nat → List Int → Int → List Int → Int → Option (List Int × Bool)
 | 0, _, _, _, _ => none
 | k + 1, x6, x7, x12, x13 => if x13 < x7 then (if 0 ≤ x13 then (if x13 < (x12.length : Int) then (if 0 ≤ (rd x12 x13) then (if (rd x12 x13) < (x6.length : Int) then (spec_Shares.l1 k (x6.set ((rd x12 x13) : Int).toNat (wrap64 ((rd x6 (rd x12 x13)) + 1))) x7 x12 (wrap64 (x13 + 1))) else (none)) else (none)) else (none)) else (none)) else (some (x6, true))
end
def spec_Shares.f (k : Nat) (a0 : Int) (l1 : List Int) : Option (List Int × Bool) := (some (([] : List Int) : List Int)).bind fun y950 => ((spec_WeightsOk.f k l1).bind fun t953 => (if t953 = true then ((spec_l1Some.f a0 0).bind fun t954 => (spec_Shares.j0 k a0 l1 y950 (!t954))) else (spec_Shares.j0 k a0 l1 y950 true)))
def spec_Shares.T15 : Bool × List (List Nat × List Nat) := (true, [([], []), ([], []), ([], []), ([1, 2], [1, 2]), ([3], [3]), ([], []), ([], []), ([], []), ([6, 7], [6, 7]), ([8], [8]), ([5, 9], [5, 9]), ([10], [10]), ([11], [11]), ([0, 4, 0, 1, 2, 3, 4, 5, 6, 7, 8, 9, 10, 11, 12], [0, 4]), ([13, 12, 0, 1, 2, 3, 4, 5, 6, 7, 8, 9, 10, 11, 12], [12, 13])])
def spec_Shares.B15 : List Nat := [0, 0, 0, 6, 14, 0, 0, 0, 192, 448, 992, 2016, 4064, 8191, 16383]
theorem spec_Shares.tab15 : rtab .any (opsOf Try.f72 15) = spec_Shares.T15 := by kernel_rfl
theorem spec_Shares.bits15 : waitsOk spec_Shares.T15.2 spec_Shares.B15 = true := by kernel_rfl
set_option maxHeartbeats 8000000 in
set_option maxRecDepth 100000 in
theorem spec_Shares.calls (k : Nat) (a0 : Int) (A1 : Option Addr) (c1 : Nat) (l1 : List Int) (r1 : List Int) (r2 : Bool) (w : World) (hr1 : Kd.C (Kd.int .i64) w A1 l1.length l1) (hc1 : l1.length ≤ c1) (h : spec_Shares.f k a0 l1 = some (r1, r2)) :
 Calls Try.prog 72 #[.int .i64 a0, .slice A1 l1.length c1] w fun e w' => ∃ v0_ : Value, e = .returned (.tuple #[v0_, .bool r2]) ∧ Kd.R (Kd.int .i64) 3 w' w.heap.size (fun _ => True) v0_ r1 ∧ Below w.heap.size w w' := by
 have HR1 := Aside0.mk hr1; have HC1 := Aside0.mk hc1; clear hr1 hc1; have HB := Aside0.mk (Below.refl w.heap.size w); have H : ((some (([] : List Int) : List Int)).bind fun y950 => ((spec_WeightsOk.f k l1).bind fun t953 => (if t953 = true then ((spec_l1Some.f a0 0).bind fun t954 => (spec_Shares.j0 k a0 l1 y950 (!t954))) else (spec_Shares.j0 k a0 l1 y950 true)))) = some (r1, r2) := h; clear h; obtain ⟨y950, hy950⟩ : ∃ y_ : List Int, y_ = (([] : List Int)) := ⟨_, rfl⟩; replace H : ((spec_WeightsOk.f k l1).bind fun t953 => (if t953 = true then ((spec_l1Some.f a0 0).bind fun t954 => (spec_Shares.j0 k a0 l1 y950 (!t954))) else (spec_Shares.j0 k a0 l1 y950 true))) = some (r1, r2) := rh_ hy950 H; have Ny950 := Aside0.mk hy950; clear hy950; have HC3 := Aside0.mk H; clear H; go_enter Try.func72, Try.ntmps72
 go_upto_region 2 with (first | ((with_reducible refine gate_dst (N := 14) rfl ?_); refine Kd.R_lit (Kd.int .i64) _ 3 ?hg (N := 14) ?hd (xs := ([] : List Int)) (inner := []) (ok := fun _ => True) (okp := fun _ => True) ?hr ?hp (fun _ hk => hk) trivial (Below.refl _ _) (Nat.le_refl _) (by simp) ?_; (case hd => rfl); (case hg => rfl); (case hr => first | (go_simp; done) | (go_simp; rfl)); (case hp => exact (Reps.none _ _)); intro v951 w4 ho5 hb hg_ hnew_; clear hg_ hnew_; (first | rw [← Ny950.out] at ho5 | (simp only [Int.reduceToNat] at ho5; rw [← Ny950.out] at ho5)); have n_ := as2_ (Kd.R_lower ho5 (below_size (bb_))) (below_step (bb_) hb); clear HB; obtain ⟨HO952, HB⟩ := n_; clear hb ho5))
 (try simp only [Act.put, List.setIfInBounds_toArray, List.set_cons_zero, List.set_cons_succ])
 go_cut [22] (fun v22 wc => ∃ (kq : Nat) (x22_2 : Bool), v22 = .bool x22_2 ∧ Aside0 (spec_Shares.j0 kq a0 l1 y950 x22_2 = some (r1, r2)) ∧ Aside0 (kq ≤ k) ∧ Aside0 (Kd.R (Kd.int .i64) 3 wc w.heap.size (fun _ => True) v951 y950) ∧ Aside0 (Below w.heap.size w wc))
 case first =>
  have H := HC3.out; clear HC3; replace H := Option.bind_eq_some_iff.mp H; obtain ⟨t953, A60, H⟩ := H; have A6 := Aside0.mk A60; clear A60
  by_cases c7 : t953 = true
  ·
   subst c7; replace H := Eq.trans (if_pos rfl).symm H; replace H := Option.bind_eq_some_iff.mp H; obtain ⟨t954, A80, H⟩ := H; have A8 := Aside0.mk A80; clear A80; have H' := Aside0.mk H; clear H; go_wp2_with (first | ((with_reducible refine gate_callee (f := 89) rfl ?_); refine goesL_ (some 16) rfl rfl Try.func89 kr_ rfl #[.slice A1 l1.length c1] rfl (bc_) ?_; (with_reducible refine (spec_WeightsOk.calls k _ _ l1 true _ ?side1 ?side2 A6.out).mono ?_); (case side1 => exact cc_ (Kd.C_below HR1.out HB.out)); (case side2 => exact HC1.out); rintro e w' ⟨rfl, ⟨nd, rfl⟩⟩; refine ⟨_, rfl, ?_⟩) | (go_at_call 60; (with_reducible refine (spec_l1Some.calls a0 0 t954 _ A8.out).mono ?_); rintro e w' ⟨rfl, ⟨nd, rfl⟩⟩))
   go_meet
   case rel => exact ⟨_, (!t954), (rs_), H', ⟨le_⟩, ⟨pe_ HO952.out⟩, ⟨bb_⟩⟩
  ·
   replace c7 := Bool.eq_false_iff.mpr c7; subst c7; have H' := Aside0.mk (Eq.trans (if_neg nf_).symm H); clear H; go_wp2_with (first | ((with_reducible refine gate_callee (f := 89) rfl ?_); refine goesL_ (some 16) rfl rfl Try.func89 kr_ rfl #[.slice A1 l1.length c1] rfl (bc_) ?_; (with_reducible refine (spec_WeightsOk.calls k _ _ l1 false _ ?side1 ?side2 A6.out).mono ?_); (case side1 => exact cc_ (Kd.C_below HR1.out HB.out)); (case side2 => exact HC1.out); rintro e w' ⟨rfl, ⟨nd, rfl⟩⟩; refine ⟨_, rfl, ?_⟩))
   go_meet
   case rel => exact ⟨_, (true), (rs_), H', ⟨le_⟩, ⟨pe_ HO952.out⟩, ⟨bb_⟩⟩
 case rest =>
  clear HC3; try clear c1
  try clear p2
  try clear c7
  try clear c8
  obtain ⟨kq, x22_2, rfl, HA, HJ2, HO_6, HB⟩ := hcut
  cases kq with
  | zero => exact absurd HA.out (by simp [spec_Shares.j0])
  | succ kj2 =>
   have H := HA.out; clear HA; simp only [spec_Shares.j0] at H
   by_cases c9 : x22_2 = true
   ·
    subst c9; replace H := Eq.trans (if_pos rfl).symm H; simp only [Option.some.injEq, Prod.mk.injEq] at H; obtain ⟨rfl, rfl⟩ := H; go_wp2; go_ret2; exact ⟨_, er_, pe_ HO_6.out, bb_⟩
   ·
    replace c9 := Bool.eq_false_iff.mpr c9; subst c9; have H' := Aside0.mk (Eq.trans (if_neg nf_).symm H); clear H; go_wp2; go_loopg [6, 7, 8] kj2 (fun kq v6 v7 v8 w' => ∃ (x6_2 : List Int) (x7_2 : Int) (x8_2 : Int), v7 = .int .i64 x7_2 ∧ v8 = .int .i64 x8_2 ∧ Aside0 (spec_Shares.l0 kq a0 l1 x6_2 x7_2 x8_2 = some (r1, r2)) ∧ Aside0 (kq ≤ kj2) ∧ Aside0 (Kd.R (Kd.int .i64) 3 w' w.heap.size (fun _ => True) v6 x6_2) ∧ Aside0 (Below w.heap.size w w'))
    case atStart => exact ⟨(y950), (a0), (0), (rs_), (rs_), H', ⟨Nat.le_refl _⟩, ⟨pe_ HO_6.out⟩, ⟨bb_⟩⟩
    case round =>
     clear H'; (try clear c1); (try clear p2); (try clear c7); (try clear c8); (try clear c9); (try clear p2); obtain ⟨x6_2, x7_2, x8_2, rfl, rfl, HA, HK2, HO_6, HB⟩ := hrel
     cases gk with
     | zero => exact absurd HA.out (by simp [spec_Shares.l0])
     | succ k2 =>
      have H := HA.out; clear HA; simp only [spec_Shares.l0] at H
      by_cases c10 : x8_2 < (l1.length : Int)
      ·
       rw [if_pos c10] at H; have c10b0 : decide (x8_2 < (l1.length : Int)) = true := decide_eq_true c10; clear c10; replace H := Option.bind_eq_some_iff.mp H; obtain ⟨⟨t955, t956, t957⟩, A110, H⟩ := H; replace H : (if x6_2.length < 17592186044416 then (spec_Shares.l0 k2 a0 l1 (x6_2 ++ [t955]) (wrap64 (x7_2 - t955)) (wrap64 (x8_2 + 1))) else (none)) = some (r1, r2) := H; have A11 := Aside0.mk A110; clear A110
       by_cases c12 : x6_2.length < 17592186044416
       ·
        rw [if_pos c12] at H; have LMc12 := Aside0.mk c12; clear c12; obtain ⟨y958, hy958⟩ : ∃ y_ : List Int, y_ = (x6_2 ++ [t955]) := ⟨_, rfl⟩; replace H : (spec_Shares.l0 k2 a0 l1 y958 (wrap64 (x7_2 - t955)) (wrap64 (x8_2 + 1))) = some (r1, r2) := rh_ hy958 H; have Ny958 := Aside0.mk hy958; clear hy958; have H' := Aside0.mk H; clear H
        go_wp2_with (first | ((with_reducible refine gate_callee (f := 90) rfl ?_); refine goesL_ (some 35) rfl rfl Try.func90 kr_ rfl #[.int .i64 a0, .slice A1 l1.length c1, .int .i64 x8_2] rfl (bc_) ?_; (with_reducible refine (spec_ShareQuota.calls k2 a0 _ _ l1 x8_2 t955 t956 t957 _ ?side1 ?side2 A11.out).mono ?_); (case side1 => exact cc_ (Kd.C_below HR1.out HB.out)); (case side2 => exact HC1.out); rintro e w' ⟨rfl, ⟨nd, rfl⟩⟩; refine ⟨_, rfl, ?_⟩) | ((with_reducible refine gate_builtin (b := .append) (xs := #[.tmp 39, .tmp 41]) rfl ?_); at_builtin; refine Kd.R_append (Kd.int .i64) (w0 := w) w.heap.size rfl (.tmp 39) (.tmp 41) 71 3 (.int .i64 0) 8 rfl Try.underlying71 info3 rfl (by decide) (by omega) u6 x6_2 t955 [.int .i64 t955] (fun _ => True) (fun _ => False) rfl rfl ?aP (fun _ hk => hk.elim) ?aF ?aO ?aB ?aS ?aL ?_; (case aP => exact rfl); (case aB => exact (bb_)); (case aF => exact (fun _ _ => trivial)); (case aO => exact (pe_ HO_6.out)); (case aS => exact (below_size (bb_))); (case aL => have := LMc12.out; omega); intro v959 w13 ho hb hg hat; rw [← Ny958.out] at ho; have n_ := as2_ (hb) (ho); clear HB HO_6; obtain ⟨HB, HO960⟩ := n_; clear ho hb hg hat))
        go_roundg k2
        case measure => have := HJ2.out; have := HK2.out; omega
        case rel => exact ⟨(y958), (wrap64 (x7_2 - t955)), (wrap64 (x8_2 + 1)), (rs_), (rs_), H', ⟨by have := HJ2.out; have := HK2.out; omega⟩, ⟨pe_ HO960.out⟩, ⟨bb_⟩⟩
       ·
        rw [if_neg c12] at H; exact absurd H (by simp)
      ·
       rw [if_neg c10] at H; have c10b0 : decide (x8_2 < (l1.length : Int)) = false := decide_eq_false c10; clear c10; replace H := Option.bind_eq_some_iff.mp H; obtain ⟨t961, A140, H⟩ := H; have A14 := Aside0.mk A140; clear A140; have H' := Aside0.mk H; clear H; go_wp2_with (first | ((with_reducible refine gate_callee (f := 91) rfl ?_); refine goesL_ (some 48) rfl rfl Try.func91 kr_ rfl #[.int .i64 a0, .slice A1 l1.length c1] rfl (bc_) ?_; (with_reducible refine (spec_ShareOrder.calls k2 a0 _ _ l1 t961 _ ?side1 ?side2 A14.out).mono ?_); (case side1 => exact cc_ (Kd.C_below HR1.out HB.out)); (case side2 => exact HC1.out); rintro e w15 ⟨v962, rfl, ho0, hb⟩; refine ⟨_, rfl, ?_⟩; have n_ := as3_ (Kd.R_elder' (pe_ HO_6.out) (Kd.R_base ho0) hb) (Kd.R_lower (Kd.R_new' ho0 (Kd.R_lt (pe_ HO_6.out))) (below_size (bb_))) (below_step (bb_) hb); clear HO_6 HB; obtain ⟨HO_6, HO963, HB⟩ := n_; (try clear hb); (try clear ho0)))
       go_loopg [13] k2 (fun kq v13 w' => ∃ (x6_3 : List Int) (x13_3 : Int), v13 = .int .i64 x13_3 ∧ Aside0 (spec_Shares.l1 kq x6_3 x7_2 t961 x13_3 = some (r1, r2)) ∧ Aside0 (kq ≤ k2) ∧ Aside0 (Kd.R (Kd.int .i64) 3 w' w.heap.size (fun k_ => some k_ ≠ (v962 : Value).ownBlock) u6 x6_3) ∧ Aside0 (Kd.R (Kd.int .i64) 3 w' w.heap.size (fun k_ => some k_ ≠ (u6 : Value).ownBlock) v962 t961) ∧ Aside0 (Below w.heap.size w w'))
       case atStart => exact ⟨(x6_2), (0), (rs_), H', ⟨Nat.le_refl _⟩, ⟨by (with_reducible repeat (first | apply Kd.R_alloc | apply Kd.R_drewN | apply Kd.R_drew)); exact Kd.R_mono HO_6.out (fun _ hk => hk.2)⟩, ⟨by (with_reducible repeat (first | apply Kd.R_alloc | apply Kd.R_drewN | apply Kd.R_drew)); exact Kd.R_mono HO963.out (fun _ hk => hk.2)⟩, ⟨bb_⟩⟩
       case round =>
        clear H'; (try clear c1); (try clear p2); (try clear p6); (try clear c7); (try clear c8); (try clear c9); (try clear c10b0); (try clear p2); obtain ⟨x6_3, x13_3, rfl, HA, HK3, HO_6, HO_12, HB⟩ := hrel
        cases gk with
        | zero => exact absurd HA.out (by simp [spec_Shares.l1])
        | succ k3 =>
         have H := HA.out; clear HA; simp only [spec_Shares.l1] at H
         by_cases c16 : x13_3 < x7_2
         ·
          rw [if_pos c16] at H; have c16b0 : decide (x13_3 < x7_2) = true := decide_eq_true c16; clear c16
          by_cases c17 : 0 ≤ x13_3
          ·
           rw [if_pos c17] at H; have c17b0 : decide (0 ≤ x13_3) = true := decide_eq_true c17; clear c17
           by_cases c18 : x13_3 < (t961.length : Int)
           ·
            rw [if_pos c18] at H; have c18b0 : decide (x13_3 < (t961.length : Int)) = true := decide_eq_true c18; clear c18
            by_cases c19 : 0 ≤ (rd t961 x13_3)
            ·
             rw [if_pos c19] at H; have c19b0 : decide (0 ≤ (rd t961 x13_3)) = true := decide_eq_true c19; clear c19
             by_cases c20 : (rd t961 x13_3) < (x6_3.length : Int)
             ·
              rw [if_pos c20] at H; have c20b0 : decide ((rd t961 x13_3) < (x6_3.length : Int)) = true := decide_eq_true c20; clear c20; obtain ⟨y967, hy967⟩ : ∃ y_ : List Int, y_ = (x6_3.set ((rd t961 x13_3) : Int).toNat (wrap64 ((rd x6_3 (rd t961 x13_3)) + 1))) := ⟨_, rfl⟩; replace H : (spec_Shares.l1 k3 y967 x7_2 t961 (wrap64 (x13_3 + 1))) = some (r1, r2) := rh_ hy967 H; have Ny967 := Aside0.mk hy967; clear hy967; have H' := Aside0.mk H; clear H; try go_wp2
              have n_ := as3_ (Kd.R_drew HO_6.out) (Kd.R_drew HO_12.out) (below_drew1 HB.out); clear HO_6 HO_12 HB; obtain ⟨HO_6, HO_12, HB⟩ := n_; obtain ⟨Ao23, co23, eo23⟩ := Kd.R_slice HO_12.out; (first | subst eo23 | (injection eo23 with f1_ f2_ f3_; have f4_ := f1_.symm; have f5_ := f3_.symm; clear f1_ f2_ f3_; subst f4_; subst f5_))
              have p964 : 0 ≤ (x13_3 : Int) := od_; have q964 : x13_3 < (t961.length : Int) := od_; obtain ⟨ad964, e964, hx964_0⟩ := Kd.at_int (Kd.R_reads' HO_12.out).2.2 x13_3 p964 q964; cases e964; replace p964 := eq_true p964; replace q964 := eq_true q964; have p965 : 0 ≤ (x13_3 : Int) := od_; have q965 : x13_3 < (t961.length : Int) := od_; obtain ⟨ad965, e965, hx965_0⟩ := Kd.at_int (Kd.R_reads' HO_12.out).2.2 x13_3 p965 q965; obtain rfl : ad964 = ad965 := (by injection e965)
              replace p965 := eq_true p965; replace q965 := eq_true q965; obtain ⟨Ao24, co24, eo24⟩ := Kd.R_slice HO_6.out; (first | subst eo24 | (injection eo24 with f1_ f2_ f3_; have f4_ := f1_.symm; have f5_ := f3_.symm; clear f1_ f2_ f3_; subst f4_; subst f5_))
              have p966 : 0 ≤ ((rd t961 x13_3) : Int) := od_; have q966 : (rd t961 x13_3) < (x6_3.length : Int) := od_; obtain ⟨ad966, e966, hx966_0⟩ := Kd.at_int (Kd.R_reads' HO_6.out).2.2 (rd t961 x13_3) p966 q966; cases e966; replace p966 := eq_true p966; replace q966 := eq_true q966; have p21 : 0 ≤ ((rd t961 x13_3) : Int) := od_; have q21 : ((rd t961 x13_3) : Int) < ((x6_3.length : Int) : Int) := od_; obtain ⟨go21, co21, eo21, gb21, gl21, cl21, HG21⟩ := Kd.R_form HO_6.out (by omega)
              (first | cases eo21 | (injection eo21 with ea_ en_ ec_; (first | subst ea_ | (injection ea_ with ea_; subst ea_)); subst ec_; clear en_))
              have GB21 := Aside0.mk gb21; have GG21 := Aside0.mk HG21; clear gb21 gl21 HG21; (first | simp only [add_plain] at hx966_0 | skip)
              obtain ⟨hx21_0, hf21_0⟩ := Kd.R_celln 0 HO_6.out ((rd t961 x13_3) : Int) p21 q21; replace p21 := eq_true p21; replace q21 := eq_true q21; have HP25 := Kd.R_putn HO_6.out ((rd t961 x13_3) : Int) (wrap64 ((rd x6_3 (rd t961 x13_3)) + 1)); rw [← Ny967.out] at HP25; have HQ25 := Aside0.mk HP25; clear HP25; refine start_ (n := 15) (S := fun w' => w'.cell? (ad964.add (x13_3).toNat) = some (.int .i64 (rd t961 x13_3)) ∧ w'.cell? (ad964.add (x13_3).toNat) = some (.int .i64 (rd t961 x13_3)) ∧ w'.cell? ⟨go21, ((rd t961 x13_3)).toNat, none⟩ = some (.int .i64 (rd x6_3 (rd t961 x13_3)))) (ds := [14]) (ba_ 15 0) kr_ rfl rfl ⟨hx964_0, hx965_0, hx966_0⟩ (fun hHeld => ?_); refine with_tabW spec_Shares.tab15 spec_Shares.bits15 (fun HT_ HW_ => ?_)
              generalize wr.drew = w22 at HO_6 HO_12 HB GG21 HQ25 hf21_0 hx21_0 hx964_0 hx965_0 hx966_0 hHeld ⊢
              refine pu_ 0 54 HT_.out (ba_ 15 1) ?_; refine pu_ 1 55 HT_.out (ba_ 15 3) ?_; refine pu_ 2 56 HT_.out (ba_ 15 7) ?_; refine pu_ 3 57 HT_.out (ba_ 15 15) ?_; refine pu_ 5 59 HT_.out (ba_ 15 47) ?_; refine pu_ 6 60 HT_.out (ba_ 15 111) ?_; refine pu_ 7 61 HT_.out (ba_ 15 239) ?_; refine pu_ 8 62 HT_.out (ba_ 15 495) ?_; refine ta_ 4 58 HT_.out HW_.out hHeld (ba_ 15 511) ?_; refine ta_ 9 63 HT_.out HW_.out hHeld (ba_ 15 1023) ?_; refine pu_ 10 64 HT_.out (ba_ 15 2047) ?_; refine ta_ 11 65 HT_.out HW_.out hHeld (ba_ 15 4095) ?_; refine pu_ 12 66 HT_.out (ba_ 15 8191) ?_; refine pu_ 13 67 HT_.out (ba_ 15 16383) ?_; refine last_ (i := 14) (N := none) (ba_ 15 32767) rfl rfl (one_of HT_.out kr_) (by decide) (fun K hK => ?_)
              refine skip_ (w1 := ?_) (by rfl) rfl ?_ ?_
              rotate_left
              ·
               go_simp; rfl
              refine hK.out _ _ ?_
              clear hK K; refine done_ (done_of HT_.out kr_) ?_
              try go_wp2
              go_roundg k3
              case measure => have := HJ2.out; have := HK2.out; have := HK3.out; omega
              case rel => exact ⟨(y967), (wrap64 (x13_3 + 1)), (rs_), H', ⟨by have := HJ2.out; have := HK2.out; have := HK3.out; omega⟩, ⟨pe_ HQ25.out⟩, ⟨by (with_reducible repeat (first | apply Kd.R_alloc | apply Kd.R_drewN | apply Kd.R_drew)); exact Kd.R_mono (Kd.R_far (p := ⟨go21, ((rd t961 x13_3) : Int).toNat, none⟩) (Kd.R_mono HO_12.out (fun k_ hk => (⟨hk, fun e_ => hk (by rw [e_]; rfl)⟩ : _ ∧ k_ ≠ go21))) (fun _ hk => hk.2) (.int .i64 (wrap64 ((rd x6_3 (rd t961 x13_3)) + 1)))) (fun _ hk => hk.1)⟩, ⟨by repeat (first | (with_reducible first | exact HB.out | apply below_alloc | apply pw_below_drewN | apply below_drew1 | refine below_set ?_ GB21.out) | exact HB.out)⟩⟩
             ·
              rw [if_neg c20] at H; exact absurd H (by simp)
            ·
             rw [if_neg c19] at H; exact absurd H (by simp)
           ·
            rw [if_neg c18] at H; exact absurd H (by simp)
          ·
           rw [if_neg c17] at H; exact absurd H (by simp)
         ·
          rw [if_neg c16] at H; have c16b0 : decide (x13_3 < x7_2) = false := decide_eq_false c16; clear c16; simp only [Option.some.injEq, Prod.mk.injEq] at H; obtain ⟨rfl, rfl⟩ := H; go_wp2; go_ret2; exact ⟨_, er_, by (with_reducible repeat (first | apply Kd.R_alloc | apply Kd.R_drewN | apply Kd.R_drew)); exact Kd.R_mono HO_6.out (fun _ hk => trivial), bb_⟩
end Go.Proofs.Ytomanpmffjkkgaa.P
namespace Go.Proofs.Ytomanpmffjkkgaa
section
open Go Go.RowKit Go.Proofs.YtomanpmffjkkgaaW.PrintWords Go.Proofs.YtomanpmffjkkgaaW.PrintLast Go.Proofs.YtomanpmffjkkgaaW.PrintMore
theorem as8_ {p0 p1 p2 p3 p4 p5 p6 p7 : Prop} (x0 : p0) (x1 : p1) (x2 : p2) (x3 : p3) (x4 : p4) (x5 : p5) (x6 : p6) (x7 : p7) : Aside0 p0 ∧ Aside0 p1 ∧ Aside0 p2 ∧ Aside0 p3 ∧ Aside0 p4 ∧ Aside0 p5 ∧ Aside0 p6 ∧ Aside0 p7 := ⟨⟨x0⟩, ⟨x1⟩, ⟨x2⟩, ⟨x3⟩, ⟨x4⟩, ⟨x5⟩, ⟨x6⟩, ⟨x7⟩⟩
end
end Go.Proofs.Ytomanpmffjkkgaa
namespace Go.Proofs.Ytomanpmffjkkgaa.P
open Go.RowKit Go.Proofs.YtomanpmffjkkgaaW.PrintWords Go.Proofs.YtomanpmffjkkgaaW.PrintLast Go.Proofs.YtomanpmffjkkgaaW.PrintMore
attribute [local go_sem] max2_int min2_int max_two min_two max_three min_three max_four min_four   -- for this text's walks alone
set_option linter.unusedVariables false
set_option linter.unusedSimpArgs false
mutual
def spec_LotsScale.j0 : Nat → List (S37) → Int → Int → Int → Bool → Option ((List (S37)) × Int)
 | 0, _, _, _, _, _ => none
 | k + 1, x0, x1, x2, x3, x28 => if x28 = true then (some ((([] : List (S37))), 1)) else ((spec_l5Split.f k x0 x1 x2).bind fun bt973 => ((some (([] : List (S37)) : List (S37))).bind fun y979 => (if y979.length + x0.length < 3518437208883 then ((some (y979 ++ x0 : List (S37))).bind fun y982 => (if (bt973.1.length : Int) = 0 then (spec_LotsScale.j1 k x3 bt973.1 bt973.2 y982 (decide (x3 > 0))) else (spec_LotsScale.j1 k x3 bt973.1 bt973.2 y982 false))) else (none))))
def spec_LotsScale.j1 : Nat → Int → List (S37) → List (S37) → List (S37) → Bool → Option ((List (S37)) × Int)
 | 0, _, _, _, _, _ => none
 | k + 1, x3, x10, x11, x12, x40 => if x40 = true then (some (x12, 2)) else (if (x10.length : Int) = 0 then (some (x12, 0)) else (if (x10.length : Int) > 40 then (some (x12, 3)) else (spec_LotsScale.l0 k x3 x10 x11 (([] : List Int)) 0)))
def spec_LotsScale.l0 : Nat → Int → List (S37) → List (S37) → List Int → Int → Option ((List (S37)) × Int)
 | 0, _, _, _, _, _ => none
 | k + 1, x3, x10, x11, x13, x14 => if x14 < (x10.length : Int) then (if 0 ≤ x14 then (if x13.length < 17592186044416 then (spec_LotsScale.l0 k x3 x10 x11 (x13 ++ [(rd_T37 x10 x14).f3]) (wrap64 (x14 + 1))) else (none)) else (none)) else ((spec_Shares.f k x3 x13).bind fun bt992 => (spec_LotsScale.l1 k x10 x11 bt992.1 (([] : List (S37))) 0 0))
def spec_LotsScale.l1 : Nat → List (S37) → List (S37) → List Int → List (S37) → Int → Int → Option ((List (S37)) × Int)
 | 0, _, _, _, _, _, _ => none
 | k + 1, x10, x11, x15, x17, x18, x19 => if x19 < (x10.length : Int) then (if 0 ≤ x19 then (if x19 < (x15.length : Int) then (if (rd x15 x19) = 0 then (spec_LotsScale.l1 k x10 x11 x15 x17 (wrap64 (x18 + ((rd_T37 x10 x19).f4))) (wrap64 (x19 + 1))) else (if x17.length < 3518437208883 then (spec_LotsScale.l1 k x10 x11 x15 (x17 ++ [(⟨(rd_T37 x10 x19).f0, (rd_T37 x10 x19).f1, (rd_T37 x10 x19).f2, rd x15 x19, (rd_T37 x10 x19).f4⟩ : S37)]) x18 (wrap64 (x19 + 1))) else (none))) else (none)) else (none)) else (if (x17.length : Int) > 0 then (if 0 < (x17.length : Int) then ((spec_l5Merge.f k x11 (x17.set (0 : Int).toNat (⟨(rd_T37 x17 0).f0, (rd_T37 x17 0).f1, (rd_T37 x17 0).f2, (rd_T37 x17 0).f3, wrap64 (((rd_T37 x17 0).f4) + x18)⟩ : S37))).bind fun t1007 => (some (t1007, 0))) else (none)) else ((spec_l5Merge.f k x11 x17).bind fun t1010 => (some (t1010, 0))))
end
def spec_LotsScale.f (k : Nat) (l0 : List (S37)) (a1 : Int) (a2 : Int) (a3 : Int) : Option ((List (S37)) × Int) := (spec_LotsOk.f k l0).bind fun t968 => (if t968 = true then ((spec_l1Some.f a3 0).bind fun t969 => (spec_LotsScale.j0 k l0 a1 a2 a3 (!t969))) else (spec_LotsScale.j0 k l0 a1 a2 a3 true))
set_option maxHeartbeats 8000000 in
set_option maxRecDepth 100000 in
theorem spec_LotsScale.calls (k : Nat) (A0 : Option Addr) (c0 : Nat) (l0 : List (S37)) (a1 : Int) (a2 : Int) (a3 : Int) (r1 : List (S37)) (r2 : Int) (w : World) (hr0 : Kd.C k37 w A0 l0.length l0) (hc0 : l0.length ≤ c0) (h : spec_LotsScale.f k l0 a1 a2 a3 = some (r1, r2)) :
 Calls Try.prog 36 #[.slice A0 l0.length c0, .int .i64 a1, .int .i64 a2, .int .i64 a3] w fun e w' => ∃ v0_ : Value, e = .returned (.tuple #[v0_, .int .i64 r2]) ∧ Kd.R k37 37 w' w.heap.size (fun _ => True) v0_ r1 ∧ Below w.heap.size w w' := by
 have hu37 := Try.underlying37; have HR0 := Aside0.mk hr0; have HC0 := Aside0.mk hc0; clear hr0 hc0; have HB := Aside0.mk (Below.refl w.heap.size w); have H : ((spec_LotsOk.f k l0).bind fun t968 => (if t968 = true then ((spec_l1Some.f a3 0).bind fun t969 => (spec_LotsScale.j0 k l0 a1 a2 a3 (!t969))) else (spec_LotsScale.j0 k l0 a1 a2 a3 true))) = some (r1, r2) := h; clear h; have HC5 := Aside0.mk H; clear H; go_enter Try.func36, Try.ntmps36; go_upto_region 1 with (fail)
 go_cut [28] (fun v28 wc => ∃ (kq : Nat) (x28_4 : Bool), v28 = .bool x28_4 ∧ Aside0 (spec_LotsScale.j0 kq l0 a1 a2 a3 x28_4 = some (r1, r2)) ∧ Aside0 (kq ≤ k) ∧ Aside0 (Below w.heap.size w wc))
 case first =>
  have H := HC5.out; clear HC5; replace H := Option.bind_eq_some_iff.mp H; obtain ⟨t968, A60, H⟩ := H; have A6 := Aside0.mk A60; clear A60
  by_cases c7 : t968 = true
  ·
   subst c7; replace H := Eq.trans (if_pos rfl).symm H; replace H := Option.bind_eq_some_iff.mp H; obtain ⟨t969, A80, H⟩ := H; have A8 := Aside0.mk A80; clear A80; have H' := Aside0.mk H; clear H; go_wp2_with (first | ((with_reducible refine gate_callee (f := 15) rfl ?_); refine goesL_ (some 22) rfl rfl Try.func15 kr_ rfl #[.slice A0 l0.length c0] rfl (bc_) ?_; (with_reducible refine (spec_LotsOk.calls k _ _ l0 true _ ?side1 ?side2 A6.out).mono ?_); (case side1 => exact cc_ (Kd.C_below HR0.out HB.out)); (case side2 => exact HC0.out); rintro e w9 ⟨rfl, hb⟩; refine ⟨_, rfl, ?_⟩; replace HB := Aside0.mk (below_step (bb_) hb); (try clear hb)) | (go_at_call 60; (with_reducible refine (spec_l1Some.calls a3 0 t969 _ A8.out).mono ?_); rintro e w' ⟨rfl, ⟨nd, rfl⟩⟩))
   go_meet
   case rel => exact ⟨_, (!t969), (rs_), H', ⟨le_⟩, ⟨bb_⟩⟩
  ·
   replace c7 := Bool.eq_false_iff.mpr c7; subst c7; have H' := Aside0.mk (Eq.trans (if_neg nf_).symm H); clear H; go_wp2_with (first | ((with_reducible refine gate_callee (f := 15) rfl ?_); refine goesL_ (some 22) rfl rfl Try.func15 kr_ rfl #[.slice A0 l0.length c0] rfl (bc_) ?_; (with_reducible refine (spec_LotsOk.calls k _ _ l0 false _ ?side1 ?side2 A6.out).mono ?_); (case side1 => exact cc_ (Kd.C_below HR0.out HB.out)); (case side2 => exact HC0.out); rintro e w10 ⟨rfl, hb⟩; refine ⟨_, rfl, ?_⟩; replace HB := Aside0.mk (below_step (bb_) hb); (try clear hb)))
   go_meet
   case rel => exact ⟨_, (true), (rs_), H', ⟨le_⟩, ⟨bb_⟩⟩
 case rest =>
  clear HC5; try clear c1
  try clear p2
  try clear c3
  try clear c7
  obtain ⟨kq, x28_4, rfl, HA, HJ4, HB⟩ := hcut
  cases kq with
  | zero => exact absurd HA.out (by simp [spec_LotsScale.j0])
  | succ kj4 =>
   have H := HA.out; clear HA; simp only [spec_LotsScale.j0] at H
   by_cases c11 : x28_4 = true
   ·
    subst c11; replace H := Eq.trans (if_pos rfl).symm H; obtain ⟨y970, hy970⟩ : ∃ y_ : List (S37), y_ = (([] : List (S37))) := ⟨_, rfl⟩; replace H : (some (y970, 1)) = some (r1, r2) := rh_ hy970 H; have Ny970 := Aside0.mk hy970; clear hy970; simp only [Option.some.injEq, Prod.mk.injEq] at H; obtain ⟨rfl, rfl⟩ := H; go_wp2_with (first | ((with_reducible refine gate_dst (N := 29) rfl ?_); refine Kd.R_lit k37 _ 37 ?hg (N := 29) ?hd (xs := ([] : List (S37))) (inner := []) (ok := fun _ => True) (okp := fun _ => True) ?hr ?hp (fun _ hk => hk) trivial (Below.refl _ _) (Nat.le_refl _) (by simp) ?_; (case hd => rfl); (case hg => rfl); (case hr => first | (go_simp; done) | (go_simp; rfl)); (case hp => exact (Reps.none _ _)); intro v971 w12 ho13 hb hg_ hnew_; clear hg_ hnew_; (first | rw [← Ny970.out] at ho13 | (simp only [Int.reduceToNat] at ho13; rw [← Ny970.out] at ho13)); have n_ := as2_ (Kd.R_lower ho13 (below_size (bb_))) (below_step (bb_) hb); clear HB; obtain ⟨HO972, HB⟩ := n_; clear hb ho13))
    go_ret2; exact ⟨_, er_, pe_ HO972.out, bb_⟩
   ·
    replace c11 := Bool.eq_false_iff.mpr c11; subst c11; replace H := Eq.trans (if_neg nf_).symm H; replace H := Option.bind_eq_some_iff.mp H; obtain ⟨⟨t973, t974⟩, A140, H⟩ := H; replace H : ((some (([] : List (S37)) : List (S37))).bind fun y979 => (if y979.length + l0.length < 3518437208883 then ((some (y979 ++ l0 : List (S37))).bind fun y982 => (if (t973.length : Int) = 0 then (spec_LotsScale.j1 kj4 a3 t973 t974 y982 (decide (a3 > 0))) else (spec_LotsScale.j1 kj4 a3 t973 t974 y982 false))) else (none))) = some (r1, r2) := H; have A14 := Aside0.mk A140; clear A140; obtain ⟨y979, hy979⟩ : ∃ y_ : List (S37), y_ = (([] : List (S37))) := ⟨_, rfl⟩; replace H : (if y979.length + l0.length < 3518437208883 then ((some (y979 ++ l0 : List (S37))).bind fun y982 => (if (t973.length : Int) = 0 then (spec_LotsScale.j1 kj4 a3 t973 t974 y982 (decide (a3 > 0))) else (spec_LotsScale.j1 kj4 a3 t973 t974 y982 false))) else (none)) = some (r1, r2) := rh_ hy979 H; have Ny979 := Aside0.mk hy979; clear hy979
    by_cases c15 : y979.length + l0.length < 3518437208883
    ·
     rw [if_pos c15] at H; have LMc15 := Aside0.mk c15; clear c15; obtain ⟨y982, hy982⟩ : ∃ y_ : List (S37), y_ = (y979 ++ l0) := ⟨_, rfl⟩; replace H : (if (t973.length : Int) = 0 then (spec_LotsScale.j1 kj4 a3 t973 t974 y982 (decide (a3 > 0))) else (spec_LotsScale.j1 kj4 a3 t973 t974 y982 false)) = some (r1, r2) := rh_ hy982 H; have Ny982 := Aside0.mk hy982; clear hy982; have HC16 := Aside0.mk H; clear H
     go_upto_region 5 with (first | ((with_reducible refine gate_callee (f := 52) rfl ?_); refine goesL_ (some 34) rfl rfl Try.func52 kr_ rfl #[.slice A0 l0.length c0, .int .i64 a1, .int .i64 a2] rfl (bc_) ?_; (with_reducible refine (spec_l5Split.calls kj4 _ _ l0 a1 a2 t973 t974 _ ?side1 ?side2 A14.out).mono ?_); (case side1 => exact cc_ (Kd.C_below HR0.out HB.out)); (case side2 => exact HC0.out); rintro e w17 ⟨v975, v977, rfl, ho0, ho1, hb⟩; refine ⟨_, rfl, ?_⟩; have n_ := as3_ (Kd.R_lower ho0 (below_size (bb_))) (Kd.R_lower ho1 (below_size (bb_))) (below_step (bb_) hb); clear HB; obtain ⟨HO976, HO978, HB⟩ := n_; (try clear hb); (try clear ho0); (try clear ho1)) | ((with_reducible refine gate_dst (N := 37) rfl ?_); refine Kd.R_lit k37 _ 37 ?hg (N := 37) ?hd (xs := ([] : List (S37))) (inner := []) (ok := fun _ => True) (okp := fun _ => True) ?hr ?hp (fun _ hk => hk) trivial (Below.refl _ _) (Nat.le_refl _) (by simp) ?_; (case hd => rfl); (case hg => rfl); (case hr => first | (go_simp; done) | (go_simp; rfl)); (case hp => exact (Reps.none _ _)); intro v980 w18 ho19 hb hg_ hnew_; clear hg_ hnew_; (first | rw [← Ny979.out] at ho19 | (simp only [Int.reduceToNat] at ho19; rw [← Ny979.out] at ho19)); have n_ := as4_ (Kd.R_elder' (pe_ HO976.out) (Kd.R_base ho19) hb) (Kd.R_elder' (pe_ HO978.out) (Kd.R_base ho19) hb) (Kd.R_lower (Kd.R_new' (Kd.R_new' ho19 (Kd.R_lt (pe_ HO976.out))) (Kd.R_lt (pe_ HO978.out))) (below_size (bb_))) (below_step (bb_) hb); clear HO976 HO978 HB; obtain ⟨HO976, HO978, HO981, HB⟩ := n_; clear hb ho19) | ((with_reducible refine gate_builtin (b := .append) (xs := #[.tmp 37, .tmp 38]) rfl ?_); at_builtin; refine Kd.R_append_rows k37 (w0 := w) w.heap.size rfl (.tmp 37) (.tmp 38) 25 37 (.agg #[(.int .i64 0), (.int .i64 0), (.int .i64 0), (.int .i64 0), (.int .i64 0)]) 40 rfl Try.underlying25 info37 rfl (by decide) (by omega) v980 y979 l0 _ _ _ (fun k_ => some k_ ≠ (v975 : Value).ownBlock ∧ some k_ ≠ (v977 : Value).ownBlock) (fun _ => False) rfl rfl ?aO ?aR (fun _ _ h => h) (fun _ h => h.elim) ?aF ?aB ?aS ?aL ?_; (case aR => exact cc_ (Kd.C_below HR0.out HB.out)); (case aB => exact (bb_)); (case aF => exact (fun k_ hk => ⟨Kd.fresh' (Kd.R_lt (pe_ HO976.out)) k_ hk, Kd.fresh' (Kd.R_lt (pe_ HO978.out)) k_ hk⟩)); (case aO => exact (by (with_reducible repeat (first | apply Kd.R_alloc | apply Kd.R_drewN | apply Kd.R_drew)); exact Kd.R_mono HO981.out (fun _ hk => ⟨hk.1.2, hk.2⟩))); (case aS => exact (below_size (bb_))); (case aL => have := LMc15.out; omega); intro v983 w20 ho hb hg hat; rw [← Ny982.out] at ho; have n_ := as4_ (Kd.R_after (ok := (fun k_ => some k_ ≠ (v977 : Value).ownBlock)) (pe_ HO976.out) hg hat) (Kd.R_after (ok := (fun k_ => some k_ ≠ (v975 : Value).ownBlock)) (pe_ HO978.out) hg hat) (hb) (ho); clear HO976 HO978 HB HO981; obtain ⟨HO976, HO978, HB, HO984⟩ := n_; clear ho hb hg hat))
     (try simp only [Act.put, List.setIfInBounds_toArray, List.set_cons_zero, List.set_cons_succ])
     go_cut [40] (fun v40 wc => ∃ (kq : Nat) (x40_15 : Bool), v40 = .bool x40_15 ∧ Aside0 (spec_LotsScale.j1 kq a3 t973 t974 y982 x40_15 = some (r1, r2)) ∧ Aside0 (kq ≤ kj4) ∧ Aside0 (Kd.R k37 37 wc w.heap.size (fun k_ => some k_ ≠ (v977 : Value).ownBlock ∧ some k_ ≠ (v983 : Value).ownBlock) v975 t973) ∧ Aside0 (Kd.R k37 37 wc w.heap.size (fun k_ => some k_ ≠ (v975 : Value).ownBlock ∧ some k_ ≠ (v983 : Value).ownBlock) v977 t974) ∧ Aside0 (Kd.R k37 37 wc w.heap.size (fun k_ => some k_ ≠ (v975 : Value).ownBlock ∧ some k_ ≠ (v977 : Value).ownBlock) v983 y982) ∧ Aside0 (Below w.heap.size w wc))
     case first =>
      have H := HC16.out; clear HC16
      by_cases c21 : (t973.length : Int) = 0
      ·
       rw [if_pos c21] at H; have c21b0 : ((t973.length : Int) == 0) = true := beq_iff_eq.mpr c21; have c21b1 : ((t973.length : Int) != 0) = false := bne_eq_false_iff_eq.mpr c21; clear c21; (first | rw [c21b0] | (simp only [i64_w, i32_w]; rw [c21b0]) | skip)
       have H' := Aside0.mk H; clear H; obtain ⟨Ao22, co22, eo22⟩ := Kd.R_slice HO976.out; subst eo22; go_wp2; go_meet
       case rel => exact ⟨_, (decide (a3 > 0)), (rs_), H', ⟨by have := HJ4.out; first | omega | exact Nat.le_refl _⟩, ⟨pe_ HO976.out⟩, ⟨pe_ HO978.out⟩, ⟨pe_ HO984.out⟩, ⟨bb_⟩⟩
      ·
       rw [if_neg c21] at H; have c21b0 : ((t973.length : Int) == 0) = false := beq_eq_false_iff_ne.mpr c21; have c21b1 : ((t973.length : Int) != 0) = true := bne_iff_ne.mpr c21; have c21b2 : ¬ (t973 = []) := fun h_ => c21 (by rw [h_]; rfl)
       (first | rw [c21b0] | (simp only [i64_w, i32_w]; rw [c21b0]) | skip)
       have H' := Aside0.mk H; clear H; obtain ⟨Ao23, co23, eo23⟩ := Kd.R_slice HO976.out; subst eo23; go_wp2; go_meet
       case rel => exact ⟨_, (false), (rs_), H', ⟨by have := HJ4.out; first | omega | exact Nat.le_refl _⟩, ⟨pe_ HO976.out⟩, ⟨pe_ HO978.out⟩, ⟨pe_ HO984.out⟩, ⟨bb_⟩⟩
     case rest =>
      clear HC16; (try clear c1); (try clear c2); (try clear p2); (try clear c3); (try clear c5); (try clear c7); (try clear c11); (try clear c21b0); (try clear c21b1); (try clear c21b2); (try clear p2); obtain ⟨kq, x40_15, rfl, HA, HJ15, HO_10, HO_11, HO_12, HB⟩ := hcut
      cases kq with
      | zero => exact absurd HA.out (by simp [spec_LotsScale.j1])
      | succ kj15 =>
       have H := HA.out; clear HA; simp only [spec_LotsScale.j1] at H
       by_cases c24 : x40_15 = true
       ·
        subst c24; replace H := Eq.trans (if_pos rfl).symm H; simp only [Option.some.injEq, Prod.mk.injEq] at H; obtain ⟨rfl, rfl⟩ := H; go_wp2; go_ret2; exact ⟨_, er_, by (with_reducible repeat (first | apply Kd.R_alloc | apply Kd.R_drewN | apply Kd.R_drew)); exact Kd.R_mono HO_12.out (fun _ hk => trivial), bb_⟩
       ·
        replace c24 := Bool.eq_false_iff.mpr c24; subst c24; replace H := Eq.trans (if_neg nf_).symm H
        by_cases c25 : (t973.length : Int) = 0
        ·
         rw [if_pos c25] at H; have c25b0 : ((t973.length : Int) == 0) = true := beq_iff_eq.mpr c25; have c25b1 : ((t973.length : Int) != 0) = false := bne_eq_false_iff_eq.mpr c25; clear c25; simp only [Option.some.injEq, Prod.mk.injEq] at H; obtain ⟨rfl, rfl⟩ := H; obtain ⟨Ao26, co26, eo26⟩ := Kd.R_slice HO_10.out; subst eo26; go_wp2; go_ret2; exact ⟨_, er_, by (with_reducible repeat (first | apply Kd.R_alloc | apply Kd.R_drewN | apply Kd.R_drew)); exact Kd.R_mono HO_12.out (fun _ hk => trivial), bb_⟩
        ·
         rw [if_neg c25] at H; have c25b0 : ((t973.length : Int) == 0) = false := beq_eq_false_iff_ne.mpr c25; have c25b1 : ((t973.length : Int) != 0) = true := bne_iff_ne.mpr c25; have c25b2 : ¬ (t973 = []) := fun h_ => c25 (by rw [h_]; rfl)
         by_cases c27 : (t973.length : Int) > 40
         ·
          rw [if_pos c27] at H; have c27b0 : decide (40 < (t973.length : Int)) = true := decide_eq_true c27; have c27b1 : decide (40 < t973.length) = true := decide_eq_true (by omega)
          clear c27; simp only [Option.some.injEq, Prod.mk.injEq] at H; obtain ⟨rfl, rfl⟩ := H; obtain ⟨Ao28, co28, eo28⟩ := Kd.R_slice HO_10.out; subst eo28; go_wp2; go_ret2; exact ⟨_, er_, by (with_reducible repeat (first | apply Kd.R_alloc | apply Kd.R_drewN | apply Kd.R_drew)); exact Kd.R_mono HO_12.out (fun _ hk => trivial), bb_⟩
         ·
          rw [if_neg c27] at H; have c27b0 : decide (40 < (t973.length : Int)) = false := decide_eq_false c27; have c27b1 : decide (40 < t973.length) = false := decide_eq_false (by omega)
          clear c27; obtain ⟨y985, hy985⟩ : ∃ y_ : List Int, y_ = (([] : List Int)) := ⟨_, rfl⟩; replace H : (spec_LotsScale.l0 kj15 a3 t973 t974 y985 0) = some (r1, r2) := rh_ hy985 H; have Ny985 := Aside0.mk hy985; clear hy985; have H' := Aside0.mk H; clear H; obtain ⟨Ao29, co29, eo29⟩ := Kd.R_slice HO_10.out; subst eo29; go_wp2_with (first | ((with_reducible refine gate_dst (N := 59) rfl ?_); refine Kd.R_lit (Kd.int .i64) _ 3 ?hg (N := 59) ?hd (xs := ([] : List Int)) (inner := []) (ok := fun _ => True) (okp := fun _ => True) ?hr ?hp (fun _ hk => hk) trivial (Below.refl _ _) (Nat.le_refl _) (by simp) ?_; (case hd => rfl); (case hg => rfl); (case hr => first | (go_simp; done) | (go_simp; rfl)); (case hp => exact (Reps.none _ _)); intro v986 w30 ho31 hb hg_ hnew_; clear hg_ hnew_; (first | rw [← Ny985.out] at ho31 | (simp only [Int.reduceToNat] at ho31; rw [← Ny985.out] at ho31)); have n_ := as5_ (Kd.R_below (pe_ HO_10.out) hb) (Kd.R_below (pe_ HO_11.out) hb) (Kd.R_below (pe_ HO_12.out) hb) (Kd.R_lower ho31 (below_size (bb_))) (below_step (bb_) hb); clear HO_10 HO_11 HO_12 HB; obtain ⟨HO_10, HO_11, HO_12, HO987, HB⟩ := n_; clear hb ho31))
          go_loopg [13, 14] kj15 (fun kq v13 v14 w' => ∃ (x13_3 : List Int) (x14_3 : Int), v14 = .int .i64 x14_3 ∧ Aside0 (spec_LotsScale.l0 kq a3 t973 t974 x13_3 x14_3 = some (r1, r2)) ∧ Aside0 (kq ≤ kj15) ∧ Aside0 (Kd.R k37 37 w' w.heap.size (fun k_ => some k_ ≠ (v977 : Value).ownBlock) (.slice Ao29 t973.length co29) t973) ∧ Aside0 (Kd.R k37 37 w' w.heap.size (fun k_ => some k_ ≠ ((.slice Ao29 t973.length co29) : Value).ownBlock) v977 t974) ∧ Aside0 (Kd.R (Kd.int .i64) 3 w' w.heap.size (fun _ => True) v13 x13_3) ∧ Aside0 (Below w.heap.size w w'))
          case atStart => exact ⟨(y985), (0), (rs_), H', ⟨Nat.le_refl _⟩, ⟨by (with_reducible repeat (first | apply Kd.R_alloc | apply Kd.R_drewN | apply Kd.R_drew)); exact Kd.R_mono HO_10.out (fun _ hk => hk.1)⟩, ⟨by (with_reducible repeat (first | apply Kd.R_alloc | apply Kd.R_drewN | apply Kd.R_drew)); exact Kd.R_mono HO_11.out (fun _ hk => hk.1)⟩, ⟨pe_ HO987.out⟩, ⟨bb_⟩⟩
          case round =>
           clear H'; (try clear c1); (try clear c2); (try clear p2); (try clear c3); (try clear c5); (try clear c7); (try clear c11); (try clear c21b0); (try clear c21b1); (try clear c21b2); (try clear c24); (try clear c25b0); (try clear c25b1); (try clear c25b2); (try clear c27b0); (try clear c27b1); (try clear p2); obtain ⟨x13_3, x14_3, rfl, HA, HK3, HO_10, HO_11, HO_13, HB⟩ := hrel
           cases gk with
           | zero => exact absurd HA.out (by simp [spec_LotsScale.l0])
           | succ k3 =>
            have H := HA.out; clear HA; simp only [spec_LotsScale.l0] at H
            by_cases c32 : x14_3 < (t973.length : Int)
            ·
             rw [if_pos c32] at H; have c32b0 : decide (x14_3 < (t973.length : Int)) = true := decide_eq_true c32; clear c32
             by_cases c33 : 0 ≤ x14_3
             ·
              rw [if_pos c33] at H; have c33b0 : decide (0 ≤ x14_3) = true := decide_eq_true c33; clear c33
              by_cases c34 : x13_3.length < 17592186044416
              ·
               rw [if_pos c34] at H; have LMc34 := Aside0.mk c34; clear c34; obtain ⟨y989, hy989⟩ : ∃ y_ : List Int, y_ = (x13_3 ++ [(rd_T37 t973 x14_3).f3]) := ⟨_, rfl⟩; replace H : (spec_LotsScale.l0 k3 a3 t973 t974 y989 (wrap64 (x14_3 + 1))) = some (r1, r2) := rh_ hy989 H; have Ny989 := Aside0.mk hy989; clear hy989; have H' := Aside0.mk H; clear H; have p988 : 0 ≤ (x14_3 : Int) := od_; have q988 : x14_3 < (t973.length : Int) := od_; obtain ⟨ad988, e988, hx988_0, hx988_1, hx988_2, hx988_3, hx988_4⟩ := at_T37 (Kd.R_reads' HO_10.out).2.2 x14_3 p988 q988; cases e988; replace p988 := eq_true p988; replace q988 := eq_true q988
               go_wp2_with (first | ((with_reducible refine gate_builtin (b := .append) (xs := #[.tmp 66, .tmp 72]) rfl ?_); at_builtin; refine Kd.R_append (Kd.int .i64) (w0 := w) w.heap.size rfl (.tmp 66) (.tmp 72) 71 3 (.int .i64 0) 8 rfl Try.underlying71 info3 rfl (by decide) (by omega) u13 x13_3 ((rd_T37 t973 x14_3).f3) [.int .i64 ((rd_T37 t973 x14_3).f3)] (fun _ => True) (fun _ => False) rfl rfl ?aP (fun _ hk => hk.elim) ?aF ?aO ?aB ?aS ?aL ?_; (case aP => exact rfl); (case aB => exact (bb_)); (case aF => exact (fun _ _ => trivial)); (case aO => exact (pe_ HO_13.out)); (case aS => exact (below_size (bb_))); (case aL => have := LMc34.out; omega); intro v990 w35 ho hb hg hat; rw [← Ny989.out] at ho; have n_ := as4_ (Kd.R_over' (pe_ HO_10.out) (Kd.R_typed (pe_ HO_13.out)) (by decide) hg) (Kd.R_over' (pe_ HO_11.out) (Kd.R_typed (pe_ HO_13.out)) (by decide) hg) (hb) (ho); clear HO_10 HO_11 HB HO_13; obtain ⟨HO_10, HO_11, HB, HO991⟩ := n_; clear ho hb hg hat))
               go_roundg k3
               case measure => have := HJ4.out; have := HJ15.out; have := HK3.out; omega
               case rel => exact ⟨(y989), (wrap64 (x14_3 + 1)), (rs_), H', ⟨by have := HJ4.out; have := HJ15.out; have := HK3.out; omega⟩, ⟨pe_ HO_10.out⟩, ⟨pe_ HO_11.out⟩, ⟨pe_ HO991.out⟩, ⟨bb_⟩⟩
              ·
               rw [if_neg c34] at H; exact absurd H (by simp)
             ·
              rw [if_neg c33] at H; exact absurd H (by simp)
            ·
             rw [if_neg c32] at H; have c32b0 : decide (x14_3 < (t973.length : Int)) = false := decide_eq_false c32; clear c32; replace H := Option.bind_eq_some_iff.mp H; obtain ⟨⟨t992, t993⟩, A360, H⟩ := H; replace H : (spec_LotsScale.l1 k3 t973 t974 t992 (([] : List (S37))) 0 0) = some (r1, r2) := H; have A36 := Aside0.mk A360; clear A360; obtain ⟨y996, hy996⟩ : ∃ y_ : List (S37), y_ = (([] : List (S37))) := ⟨_, rfl⟩; replace H : (spec_LotsScale.l1 k3 t973 t974 t992 y996 0 0) = some (r1, r2) := rh_ hy996 H; have Ny996 := Aside0.mk hy996; clear hy996; have H' := Aside0.mk H; clear H; obtain ⟨Ao37, co37, eo37⟩ := Kd.R_slice HO_13.out; subst eo37
             go_wp2_with (first | ((with_reducible refine gate_callee (f := 72) rfl ?_); refine goesL_ (some 77) rfl rfl Try.func72 kr_ rfl #[.int .i64 a3, .slice Ao37 x13_3.length co37] rfl (bc_) ?_; (with_reducible refine (spec_Shares.calls k3 a3 _ _ x13_3 t992 t993 _ ?side1 ?side2 A36.out).mono ?_); (case side1 => exact cc_ (Kd.R_reads' HO_13.out).2.2); (case side2 => exact (Kd.R_reads' HO_13.out).2.1); rintro e w38 ⟨v994, rfl, ho0, hb⟩; refine ⟨_, rfl, ?_⟩; have n_ := as5_ (Kd.R_below (pe_ HO_10.out) hb) (Kd.R_below (pe_ HO_11.out) hb) (Kd.R_elder' (pe_ HO_13.out) (Kd.R_base ho0) hb) (Kd.R_lower (Kd.R_new' ho0 (Kd.R_lt (pe_ HO_13.out))) (below_size (bb_))) (below_step (bb_) hb); clear HO_10 HO_11 HO_13 HB; obtain ⟨HO_10, HO_11, HO_13, HO995, HB⟩ := n_; (try clear hb); (try clear ho0)) | ((with_reducible refine gate_dst (N := 80) rfl ?_); refine Kd.R_lit k37 _ 37 ?hg (N := 80) ?hd (xs := ([] : List (S37))) (inner := []) (ok := fun _ => True) (okp := fun _ => True) ?hr ?hp (fun _ hk => hk) trivial (Below.refl _ _) (Nat.le_refl _) (by simp) ?_; (case hd => rfl); (case hg => rfl); (case hr => first | (go_simp; done) | (go_simp; rfl)); (case hp => exact (Reps.none _ _)); intro v997 w39 ho40 hb hg_ hnew_; clear hg_ hnew_; (first | rw [← Ny996.out] at ho40 | (simp only [Int.reduceToNat] at ho40; rw [← Ny996.out] at ho40)); have n_ := as6_ (Kd.R_elder' (pe_ HO_10.out) (Kd.R_base ho40) hb) (Kd.R_elder' (pe_ HO_11.out) (Kd.R_base ho40) hb) (Kd.R_below (pe_ HO_13.out) hb) (Kd.R_below (pe_ HO995.out) hb) (Kd.R_lower (Kd.R_new' (Kd.R_new' ho40 (Kd.R_lt (pe_ HO_10.out))) (Kd.R_lt (pe_ HO_11.out))) (below_size (bb_))) (below_step (bb_) hb); clear HO_10 HO_11 HO_13 HO995 HB; obtain ⟨HO_10, HO_11, HO_13, HO995, HO998, HB⟩ := n_; clear hb ho40))
             go_loopg [17, 18, 19] k3 (fun kq v17 v18 v19 w' => ∃ (x17_4 : List (S37)) (x18_4 : Int) (x19_4 : Int), v18 = .int .i64 x18_4 ∧ v19 = .int .i64 x19_4 ∧ Aside0 (spec_LotsScale.l1 kq t973 t974 t992 x17_4 x18_4 x19_4 = some (r1, r2)) ∧ Aside0 (kq ≤ k3) ∧ Aside0 (Kd.R k37 37 w' w.heap.size (fun k_ => some k_ ≠ (v977 : Value).ownBlock ∧ some k_ ≠ (v17 : Value).ownBlock) (.slice Ao29 t973.length co29) t973) ∧ Aside0 (Kd.R k37 37 w' w.heap.size (fun k_ => some k_ ≠ ((.slice Ao29 t973.length co29) : Value).ownBlock ∧ some k_ ≠ (v17 : Value).ownBlock) v977 t974) ∧ Aside0 (Kd.R (Kd.int .i64) 3 w' w.heap.size (fun _ => True) v994 t992) ∧ Aside0 (Kd.R k37 37 w' w.heap.size (fun k_ => some k_ ≠ ((.slice Ao29 t973.length co29) : Value).ownBlock ∧ some k_ ≠ (v977 : Value).ownBlock) v17 x17_4) ∧ Aside0 (Below w.heap.size w w'))
             case atStart => exact ⟨(y996), (0), (0), (rs_), (rs_), H', ⟨Nat.le_refl _⟩, ⟨pe_ HO_10.out⟩, ⟨pe_ HO_11.out⟩, ⟨by (with_reducible repeat (first | apply Kd.R_alloc | apply Kd.R_drewN | apply Kd.R_drew)); exact Kd.R_mono HO995.out (fun _ hk => trivial)⟩, ⟨by (with_reducible repeat (first | apply Kd.R_alloc | apply Kd.R_drewN | apply Kd.R_drew)); exact Kd.R_mono HO998.out (fun _ hk => ⟨hk.1.2, hk.2⟩)⟩, ⟨bb_⟩⟩
             case round =>
              clear H'; (try clear c1); (try clear c2); (try clear p2); (try clear c3); (try clear c5); (try clear p6); (try clear c7); (try clear p9); (try clear q9); (try clear hx9); (try clear c11); (try clear c21b0); (try clear c21b1); (try clear c21b2); (try clear c24); (try clear c25b0); (try clear c25b1); (try clear c25b2); (try clear c27b0); (try clear c27b1); (try clear c32b0); (try clear c33b0); (try clear c36); (try clear hx988_0); (try clear hx988_1); (try clear hx988_2); (try clear hx988_3); (try clear hx988_4); (try clear p2); (try clear p988); (try clear q988); obtain ⟨x17_4, x18_4, x19_4, rfl, rfl, HA, HK4, HO_10, HO_11, HO_15, HO_17, HB⟩ := hrel
              cases gk with
              | zero => exact absurd HA.out (by simp [spec_LotsScale.l1])
              | succ k4 =>
               have H := HA.out; clear HA; simp only [spec_LotsScale.l1] at H
               by_cases c41 : x19_4 < (t973.length : Int)
               ·
                rw [if_pos c41] at H; have c41b0 : decide (x19_4 < (t973.length : Int)) = true := decide_eq_true c41; clear c41
                by_cases c42 : 0 ≤ x19_4
                ·
                 rw [if_pos c42] at H; have c42b0 : decide (0 ≤ x19_4) = true := decide_eq_true c42; clear c42
                 by_cases c43 : x19_4 < (t992.length : Int)
                 ·
                  rw [if_pos c43] at H; have c43b0 : decide (x19_4 < (t992.length : Int)) = true := decide_eq_true c43; clear c43
                  by_cases c44 : (rd t992 x19_4) = 0
                  ·
                   rw [if_pos c44] at H; have c44b0 : ((rd t992 x19_4) == 0) = true := beq_iff_eq.mpr c44; have c44b1 : ((rd t992 x19_4) != 0) = false := bne_eq_false_iff_eq.mpr c44; clear c44; have H' := Aside0.mk H; clear H; have p999 : 0 ≤ (x19_4 : Int) := od_; have q999 : x19_4 < (t973.length : Int) := od_; obtain ⟨ad999, e999, hx999_0, hx999_1, hx999_2, hx999_3, hx999_4⟩ := at_T37 (Kd.R_reads' HO_10.out).2.2 x19_4 p999 q999; cases e999; replace p999 := eq_true p999; replace q999 := eq_true q999
                   go_wp2_with (first | ((with_reducible refine gate_dst (N := 20) rfl ?_); refine be_ 20 (cs := #[.int .i64 0, .int .i64 0, .int .i64 0, .int .i64 0, .int .i64 0]) (t := 37) ?_; intro gb1000 hg w45 hbox hb; have n_ := as8_ (Kd.R_below (Kd.R_elderB (pe_ HO_10.out) gb1000 (Nat.le_of_eq hg.symm)) hb) (Kd.R_below (Kd.R_elderB (pe_ HO_11.out) gb1000 (Nat.le_of_eq hg.symm)) hb) (Kd.R_below (pe_ HO_15.out) hb) (Kd.R_below (Kd.R_elderB (pe_ HO_17.out) gb1000 (Nat.le_of_eq hg.symm)) hb) (below_step (bb_) hb) (hbox) ((gs_ hg : w.heap.size ≤ gb1000)) ((gs_ hg : w.heap.size ≤ gb1000)); clear HO_10 HO_11 HO_15 HO_17 HB; obtain ⟨HO_10, HO_11, HO_15, HO_17, HB, BK1000, GW1000, GE1000⟩ := n_; clear hb hbox hg; obtain ⟨hcz46_0, hcz46_1, hcz46_2, hcz46_3, hcz46_4, hfz46_0, hfz46_1, hfz46_2, hfz46_3, hfz46_4⟩ := ce5_ BK1000.out) | ((with_reducible refine gate_store (t := 37) (p := 20) rfl ?_); refine store_event (t := 37) (p := 20) (v := ?vo_w47) (w1 := (((((w45.setCell ⟨gb1000, 0, none⟩ (.int .i64 ((rd_T37 t973 x19_4).f0))).setCell ⟨gb1000, 1, none⟩ (.int .i64 ((rd_T37 t973 x19_4).f1))).setCell ⟨gb1000, 2, none⟩ (.int .i64 ((rd_T37 t973 x19_4).f2))).setCell ⟨gb1000, 3, none⟩ (.int .i64 ((rd_T37 t973 x19_4).f3))).setCell ⟨gb1000, 4, none⟩ (.int .i64 ((rd_T37 t973 x19_4).f4)))) ?hg ?ho ?hn ?hr ?_; (case ho => rfl); (case hg => rfl); (case hn => rfl); (case hr => first | (go_simp; done) | (go_simp; rfl)); intro w47 hw; have n0_ : Aside0 (Kd.R k37 37 w47 w.heap.size (fun k_ => some k_ ≠ (v977 : Value).ownBlock ∧ some k_ ≠ (u17 : Value).ownBlock ∧ k_ ≠ gb1000) (.slice (some ad999) t973.length co29) t973) := ⟨(by rw [hw]; exact (by (with_reducible repeat (first | apply Kd.R_alloc | apply Kd.R_drewN | apply Kd.R_drew)); exact Kd.R_mono (Kd.R_far (p := ⟨gb1000, 4, none⟩) (Kd.R_far (p := ⟨gb1000, 3, none⟩) (Kd.R_far (p := ⟨gb1000, 2, none⟩) (Kd.R_far (p := ⟨gb1000, 1, none⟩) (Kd.R_far (p := ⟨gb1000, 0, none⟩) (Kd.R_mono HO_10.out (fun k_ hk => (⟨hk, hk.2⟩ : _ ∧ k_ ≠ gb1000))) (fun _ hk => hk.2) (.int .i64 ((rd_T37 t973 x19_4).f0))) (fun _ hk => hk.2) (.int .i64 ((rd_T37 t973 x19_4).f1))) (fun _ hk => hk.2) (.int .i64 ((rd_T37 t973 x19_4).f2))) (fun _ hk => hk.2) (.int .i64 ((rd_T37 t973 x19_4).f3))) (fun _ hk => hk.2) (.int .i64 ((rd_T37 t973 x19_4).f4))) (fun _ hk => ⟨hk.1.1.1, ⟨hk.1.1.2, hk.1.2⟩⟩)))⟩; have n1_ : Aside0 (Kd.R k37 37 w47 w.heap.size (fun k_ => some k_ ≠ (.slice (some ad999) t973.length co29 : Value).ownBlock ∧ some k_ ≠ (u17 : Value).ownBlock ∧ k_ ≠ gb1000) v977 t974) := ⟨(by rw [hw]; exact (by (with_reducible repeat (first | apply Kd.R_alloc | apply Kd.R_drewN | apply Kd.R_drew)); exact Kd.R_mono (Kd.R_far (p := ⟨gb1000, 4, none⟩) (Kd.R_far (p := ⟨gb1000, 3, none⟩) (Kd.R_far (p := ⟨gb1000, 2, none⟩) (Kd.R_far (p := ⟨gb1000, 1, none⟩) (Kd.R_far (p := ⟨gb1000, 0, none⟩) (Kd.R_mono HO_11.out (fun k_ hk => (⟨hk, hk.2⟩ : _ ∧ k_ ≠ gb1000))) (fun _ hk => hk.2) (.int .i64 ((rd_T37 t973 x19_4).f0))) (fun _ hk => hk.2) (.int .i64 ((rd_T37 t973 x19_4).f1))) (fun _ hk => hk.2) (.int .i64 ((rd_T37 t973 x19_4).f2))) (fun _ hk => hk.2) (.int .i64 ((rd_T37 t973 x19_4).f3))) (fun _ hk => hk.2) (.int .i64 ((rd_T37 t973 x19_4).f4))) (fun _ hk => ⟨hk.1.1.1, ⟨hk.1.1.2, hk.1.2⟩⟩)))⟩; have n2_ : Aside0 (Kd.R (Kd.int .i64) 3 w47 w.heap.size (fun _ => True) v994 t992) := ⟨(by rw [hw]; exact (by (with_reducible repeat (first | apply Kd.R_alloc | apply Kd.R_drewN | apply Kd.R_drew)); exact Kd.R_mono (Kd.R_far (p := ⟨gb1000, 4, none⟩) (Kd.R_far (p := ⟨gb1000, 3, none⟩) (Kd.R_far (p := ⟨gb1000, 2, none⟩) (Kd.R_far (p := ⟨gb1000, 1, none⟩) (Kd.R_far (p := ⟨gb1000, 0, none⟩) (Kd.R_types HO_15.out BK1000.out (by decide)) (fun _ hk => hk.2) (.int .i64 ((rd_T37 t973 x19_4).f0))) (fun _ hk => hk.2) (.int .i64 ((rd_T37 t973 x19_4).f1))) (fun _ hk => hk.2) (.int .i64 ((rd_T37 t973 x19_4).f2))) (fun _ hk => hk.2) (.int .i64 ((rd_T37 t973 x19_4).f3))) (fun _ hk => hk.2) (.int .i64 ((rd_T37 t973 x19_4).f4))) (fun _ hk => trivial)))⟩; have n3_ : Aside0 (Kd.R k37 37 w47 w.heap.size (fun k_ => some k_ ≠ (.slice (some ad999) t973.length co29 : Value).ownBlock ∧ some k_ ≠ (v977 : Value).ownBlock ∧ k_ ≠ gb1000) u17 x17_4) := ⟨(by rw [hw]; exact (by (with_reducible repeat (first | apply Kd.R_alloc | apply Kd.R_drewN | apply Kd.R_drew)); exact Kd.R_mono (Kd.R_far (p := ⟨gb1000, 4, none⟩) (Kd.R_far (p := ⟨gb1000, 3, none⟩) (Kd.R_far (p := ⟨gb1000, 2, none⟩) (Kd.R_far (p := ⟨gb1000, 1, none⟩) (Kd.R_far (p := ⟨gb1000, 0, none⟩) (Kd.R_mono HO_17.out (fun k_ hk => (⟨hk, hk.2⟩ : _ ∧ k_ ≠ gb1000))) (fun _ hk => hk.2) (.int .i64 ((rd_T37 t973 x19_4).f0))) (fun _ hk => hk.2) (.int .i64 ((rd_T37 t973 x19_4).f1))) (fun _ hk => hk.2) (.int .i64 ((rd_T37 t973 x19_4).f2))) (fun _ hk => hk.2) (.int .i64 ((rd_T37 t973 x19_4).f3))) (fun _ hk => hk.2) (.int .i64 ((rd_T37 t973 x19_4).f4))) (fun _ hk => ⟨hk.1.1.1, ⟨hk.1.1.2, hk.1.2⟩⟩)))⟩; have n4_ : Aside0 (w47.heap[gb1000]? = some (.cells #[.int .i64 ((rd_T37 t973 x19_4).f0), .int .i64 ((rd_T37 t973 x19_4).f1), .int .i64 ((rd_T37 t973 x19_4).f2), .int .i64 ((rd_T37 t973 x19_4).f3), .int .i64 ((rd_T37 t973 x19_4).f4)] 37 (0, 0))) := ⟨(by rw [hw]; exact (by (with_reducible repeat (first | refine blk_drewN ?_ _ | refine blk_drew ?_ | refine blk_alloc ?_ _)); refine blk_put (cs := #[.int .i64 ((rd_T37 t973 x19_4).f0), .int .i64 ((rd_T37 t973 x19_4).f1), .int .i64 ((rd_T37 t973 x19_4).f2), .int .i64 ((rd_T37 t973 x19_4).f3), .int .i64 0]) ?_ 4 _ rfl; (with_reducible repeat (first | refine blk_drewN ?_ _ | refine blk_drew ?_ | refine blk_alloc ?_ _)); refine blk_put (cs := #[.int .i64 ((rd_T37 t973 x19_4).f0), .int .i64 ((rd_T37 t973 x19_4).f1), .int .i64 ((rd_T37 t973 x19_4).f2), .int .i64 0, .int .i64 0]) ?_ 3 _ rfl; (with_reducible repeat (first | refine blk_drewN ?_ _ | refine blk_drew ?_ | refine blk_alloc ?_ _)); refine blk_put (cs := #[.int .i64 ((rd_T37 t973 x19_4).f0), .int .i64 ((rd_T37 t973 x19_4).f1), .int .i64 0, .int .i64 0, .int .i64 0]) ?_ 2 _ rfl; (with_reducible repeat (first | refine blk_drewN ?_ _ | refine blk_drew ?_ | refine blk_alloc ?_ _)); refine blk_put (cs := #[.int .i64 ((rd_T37 t973 x19_4).f0), .int .i64 0, .int .i64 0, .int .i64 0, .int .i64 0]) ?_ 1 _ rfl; (with_reducible repeat (first | refine blk_drewN ?_ _ | refine blk_drew ?_ | refine blk_alloc ?_ _)); refine blk_put (cs := #[.int .i64 0, .int .i64 0, .int .i64 0, .int .i64 0, .int .i64 0]) ?_ 0 _ rfl; (with_reducible repeat (first | refine blk_drewN ?_ _ | refine blk_drew ?_ | refine blk_alloc ?_ _)); exact BK1000.out))⟩; have n5_ : Aside0 (Below w.heap.size w w47) := ⟨(by rw [hw]; exact (bg_ GE1000.out))⟩; clear hw; clear HO_10; clear HO_11; clear HO_15; clear HO_17; clear BK1000; clear HB; have HO_10 := n0_; have HO_11 := n1_; have HO_15 := n2_; have HO_17 := n3_; have BK1000 := n4_; have HB := n5_; clear n0_ n1_ n2_ n3_ n4_ n5_; obtain ⟨Ao48, co48, eo48⟩ := Kd.R_slice HO_15.out; subst eo48; have p1001 : 0 ≤ (x19_4 : Int) := od_; have q1001 : x19_4 < (t992.length : Int) := od_; obtain ⟨ad1001, e1001, hx1001_0⟩ := Kd.at_int (Kd.R_reads' HO_15.out).2.2 x19_4 p1001 q1001; cases e1001; replace p1001 := eq_true p1001; replace q1001 := eq_true q1001; obtain ⟨hcz49_0, hcz49_1, hcz49_2, hcz49_3, hcz49_4, hfz49_0, hfz49_1, hfz49_2, hfz49_3, hfz49_4⟩ := ce5_ BK1000.out) | ((with_reducible refine gate_store (t := 3) (p := 95) rfl ?_); refine store_event (t := 3) (p := 95) (v := ?vo_w50) (w1 := (w47.setCell ⟨gb1000, 3, none⟩ (.int .i64 (rd t992 x19_4)))) ?hg ?ho ?hn ?hr ?_; (case ho => rfl); (case hg => rfl); (case hn => rfl); (case hr => first | (go_simp; done) | (go_simp; rfl)); intro w50 hw; have n0_ : Aside0 (Kd.R k37 37 w50 w.heap.size (fun k_ => some k_ ≠ (v977 : Value).ownBlock ∧ some k_ ≠ (u17 : Value).ownBlock ∧ k_ ≠ gb1000) (.slice (some ad999) t973.length co29) t973) := ⟨(by rw [hw]; exact (by (with_reducible repeat (first | apply Kd.R_alloc | apply Kd.R_drewN | apply Kd.R_drew)); exact Kd.R_mono (Kd.R_far (p := ⟨gb1000, 3, none⟩) (Kd.R_mono HO_10.out (fun k_ hk => (⟨hk, hk.2.2⟩ : _ ∧ k_ ≠ gb1000))) (fun _ hk => hk.2) (.int .i64 (rd t992 x19_4))) (fun _ hk => ⟨hk.1.1, ⟨hk.1.2.1, hk.1.2.2⟩⟩)))⟩; have n1_ : Aside0 (Kd.R k37 37 w50 w.heap.size (fun k_ => some k_ ≠ (.slice (some ad999) t973.length co29 : Value).ownBlock ∧ some k_ ≠ (u17 : Value).ownBlock ∧ k_ ≠ gb1000) v977 t974) := ⟨(by rw [hw]; exact (by (with_reducible repeat (first | apply Kd.R_alloc | apply Kd.R_drewN | apply Kd.R_drew)); exact Kd.R_mono (Kd.R_far (p := ⟨gb1000, 3, none⟩) (Kd.R_mono HO_11.out (fun k_ hk => (⟨hk, hk.2.2⟩ : _ ∧ k_ ≠ gb1000))) (fun _ hk => hk.2) (.int .i64 (rd t992 x19_4))) (fun _ hk => ⟨hk.1.1, ⟨hk.1.2.1, hk.1.2.2⟩⟩)))⟩; have n2_ : Aside0 (Kd.R (Kd.int .i64) 3 w50 w.heap.size (fun _ => True) (.slice (some ad1001) t992.length co48) t992) := ⟨(by rw [hw]; exact (by (with_reducible repeat (first | apply Kd.R_alloc | apply Kd.R_drewN | apply Kd.R_drew)); exact Kd.R_mono (Kd.R_far (p := ⟨gb1000, 3, none⟩) (Kd.R_types HO_15.out BK1000.out (by decide)) (fun _ hk => hk.2) (.int .i64 (rd t992 x19_4))) (fun _ hk => trivial)))⟩; have n3_ : Aside0 (Kd.R k37 37 w50 w.heap.size (fun k_ => some k_ ≠ (.slice (some ad999) t973.length co29 : Value).ownBlock ∧ some k_ ≠ (v977 : Value).ownBlock ∧ k_ ≠ gb1000) u17 x17_4) := ⟨(by rw [hw]; exact (by (with_reducible repeat (first | apply Kd.R_alloc | apply Kd.R_drewN | apply Kd.R_drew)); exact Kd.R_mono (Kd.R_far (p := ⟨gb1000, 3, none⟩) (Kd.R_mono HO_17.out (fun k_ hk => (⟨hk, hk.2.2⟩ : _ ∧ k_ ≠ gb1000))) (fun _ hk => hk.2) (.int .i64 (rd t992 x19_4))) (fun _ hk => ⟨hk.1.1, ⟨hk.1.2.1, hk.1.2.2⟩⟩)))⟩; have n4_ : Aside0 (w50.heap[gb1000]? = some (.cells #[.int .i64 ((rd_T37 t973 x19_4).f0), .int .i64 ((rd_T37 t973 x19_4).f1), .int .i64 ((rd_T37 t973 x19_4).f2), .int .i64 (rd t992 x19_4), .int .i64 ((rd_T37 t973 x19_4).f4)] 37 (0, 0))) := ⟨(by rw [hw]; exact (by (with_reducible repeat (first | refine blk_drewN ?_ _ | refine blk_drew ?_ | refine blk_alloc ?_ _)); refine blk_put (cs := #[.int .i64 ((rd_T37 t973 x19_4).f0), .int .i64 ((rd_T37 t973 x19_4).f1), .int .i64 ((rd_T37 t973 x19_4).f2), .int .i64 ((rd_T37 t973 x19_4).f3), .int .i64 ((rd_T37 t973 x19_4).f4)]) ?_ 3 _ rfl; (with_reducible repeat (first | refine blk_drewN ?_ _ | refine blk_drew ?_ | refine blk_alloc ?_ _)); exact BK1000.out))⟩; have n5_ : Aside0 (Below w.heap.size w w50) := ⟨(by rw [hw]; exact (bg_ GE1000.out))⟩; clear hw; clear HO_10; clear HO_11; clear HO_15; clear HO_17; clear BK1000; clear HB; have HO_10 := n0_; have HO_11 := n1_; have HO_15 := n2_; have HO_17 := n3_; have BK1000 := n4_; have HB := n5_; clear n0_ n1_ n2_ n3_ n4_ n5_; obtain ⟨hcz51_0, hcz51_1, hcz51_2, hcz51_3, hcz51_4, hfz51_0, hfz51_1, hfz51_2, hfz51_3, hfz51_4⟩ := ce5_ BK1000.out))
                   go_roundg k4
                   case measure => have := HJ4.out; have := HJ15.out; have := HK3.out; have := HK4.out; omega
                   case rel => exact ⟨(x17_4), (wrap64 (x18_4 + ((rd_T37 t973 x19_4).f4))), (wrap64 (x19_4 + 1)), (rs_), (rs_), H', ⟨by have := HJ4.out; have := HJ15.out; have := HK3.out; have := HK4.out; omega⟩, ⟨by (with_reducible repeat (first | apply Kd.R_alloc | apply Kd.R_drewN | apply Kd.R_drew)); exact Kd.R_mono HO_10.out (fun _ hk => ⟨hk.1, hk.2.1⟩)⟩, ⟨by (with_reducible repeat (first | apply Kd.R_alloc | apply Kd.R_drewN | apply Kd.R_drew)); exact Kd.R_mono HO_11.out (fun _ hk => ⟨hk.1, hk.2.1⟩)⟩, ⟨pe_ HO_15.out⟩, ⟨by (with_reducible repeat (first | apply Kd.R_alloc | apply Kd.R_drewN | apply Kd.R_drew)); exact Kd.R_mono HO_17.out (fun _ hk => ⟨hk.1, hk.2.1⟩)⟩, ⟨bg_ GE1000.out⟩⟩
                  ·
                   rw [if_neg c44] at H; have c44b0 : ((rd t992 x19_4) == 0) = false := beq_eq_false_iff_ne.mpr c44; have c44b1 : ((rd t992 x19_4) != 0) = true := bne_iff_ne.mpr c44
                   by_cases c52 : x17_4.length < 3518437208883
                   ·
                    rw [if_pos c52] at H; have LMc52 := Aside0.mk c52; clear c52; obtain ⟨y1002, hy1002⟩ : ∃ y_ : List (S37), y_ = (x17_4 ++ [(⟨(rd_T37 t973 x19_4).f0, (rd_T37 t973 x19_4).f1, (rd_T37 t973 x19_4).f2, rd t992 x19_4, (rd_T37 t973 x19_4).f4⟩ : S37)]) := ⟨_, rfl⟩; replace H : (spec_LotsScale.l1 k4 t973 t974 t992 y1002 x18_4 (wrap64 (x19_4 + 1))) = some (r1, r2) := rh_ hy1002 H; have Ny1002 := Aside0.mk hy1002; clear hy1002; have H' := Aside0.mk H; clear H; have p999 : 0 ≤ (x19_4 : Int) := od_; have q999 : x19_4 < (t973.length : Int) := od_; obtain ⟨ad999, e999, hx999_0, hx999_1, hx999_2, hx999_3, hx999_4⟩ := at_T37 (Kd.R_reads' HO_10.out).2.2 x19_4 p999 q999; cases e999; replace p999 := eq_true p999; replace q999 := eq_true q999
                    go_wp2_with (first | ((with_reducible refine gate_dst (N := 20) rfl ?_); refine be_ 20 (cs := #[.int .i64 0, .int .i64 0, .int .i64 0, .int .i64 0, .int .i64 0]) (t := 37) ?_; intro gb1000 hg w53 hbox hb; have n_ := as8_ (Kd.R_below (Kd.R_elderB (pe_ HO_10.out) gb1000 (Nat.le_of_eq hg.symm)) hb) (Kd.R_below (Kd.R_elderB (pe_ HO_11.out) gb1000 (Nat.le_of_eq hg.symm)) hb) (Kd.R_below (pe_ HO_15.out) hb) (Kd.R_below (Kd.R_elderB (pe_ HO_17.out) gb1000 (Nat.le_of_eq hg.symm)) hb) (below_step (bb_) hb) (hbox) ((gs_ hg : w.heap.size ≤ gb1000)) ((gs_ hg : w.heap.size ≤ gb1000)); clear HO_10 HO_11 HO_15 HO_17 HB; obtain ⟨HO_10, HO_11, HO_15, HO_17, HB, BK1000, GW1000, GE1000⟩ := n_; clear hb hbox hg; obtain ⟨hcz54_0, hcz54_1, hcz54_2, hcz54_3, hcz54_4, hfz54_0, hfz54_1, hfz54_2, hfz54_3, hfz54_4⟩ := ce5_ BK1000.out) | ((with_reducible refine gate_store (t := 37) (p := 20) rfl ?_); refine store_event (t := 37) (p := 20) (v := ?vo_w55) (w1 := (((((w53.setCell ⟨gb1000, 0, none⟩ (.int .i64 ((rd_T37 t973 x19_4).f0))).setCell ⟨gb1000, 1, none⟩ (.int .i64 ((rd_T37 t973 x19_4).f1))).setCell ⟨gb1000, 2, none⟩ (.int .i64 ((rd_T37 t973 x19_4).f2))).setCell ⟨gb1000, 3, none⟩ (.int .i64 ((rd_T37 t973 x19_4).f3))).setCell ⟨gb1000, 4, none⟩ (.int .i64 ((rd_T37 t973 x19_4).f4)))) ?hg ?ho ?hn ?hr ?_; (case ho => rfl); (case hg => rfl); (case hn => rfl); (case hr => first | (go_simp; done) | (go_simp; rfl)); intro w55 hw; have n0_ : Aside0 (Kd.R k37 37 w55 w.heap.size (fun k_ => some k_ ≠ (v977 : Value).ownBlock ∧ some k_ ≠ (u17 : Value).ownBlock ∧ k_ ≠ gb1000) (.slice (some ad999) t973.length co29) t973) := ⟨(by rw [hw]; exact (by (with_reducible repeat (first | apply Kd.R_alloc | apply Kd.R_drewN | apply Kd.R_drew)); exact Kd.R_mono (Kd.R_far (p := ⟨gb1000, 4, none⟩) (Kd.R_far (p := ⟨gb1000, 3, none⟩) (Kd.R_far (p := ⟨gb1000, 2, none⟩) (Kd.R_far (p := ⟨gb1000, 1, none⟩) (Kd.R_far (p := ⟨gb1000, 0, none⟩) (Kd.R_mono HO_10.out (fun k_ hk => (⟨hk, hk.2⟩ : _ ∧ k_ ≠ gb1000))) (fun _ hk => hk.2) (.int .i64 ((rd_T37 t973 x19_4).f0))) (fun _ hk => hk.2) (.int .i64 ((rd_T37 t973 x19_4).f1))) (fun _ hk => hk.2) (.int .i64 ((rd_T37 t973 x19_4).f2))) (fun _ hk => hk.2) (.int .i64 ((rd_T37 t973 x19_4).f3))) (fun _ hk => hk.2) (.int .i64 ((rd_T37 t973 x19_4).f4))) (fun _ hk => ⟨hk.1.1.1, ⟨hk.1.1.2, hk.1.2⟩⟩)))⟩; have n1_ : Aside0 (Kd.R k37 37 w55 w.heap.size (fun k_ => some k_ ≠ (.slice (some ad999) t973.length co29 : Value).ownBlock ∧ some k_ ≠ (u17 : Value).ownBlock ∧ k_ ≠ gb1000) v977 t974) := ⟨(by rw [hw]; exact (by (with_reducible repeat (first | apply Kd.R_alloc | apply Kd.R_drewN | apply Kd.R_drew)); exact Kd.R_mono (Kd.R_far (p := ⟨gb1000, 4, none⟩) (Kd.R_far (p := ⟨gb1000, 3, none⟩) (Kd.R_far (p := ⟨gb1000, 2, none⟩) (Kd.R_far (p := ⟨gb1000, 1, none⟩) (Kd.R_far (p := ⟨gb1000, 0, none⟩) (Kd.R_mono HO_11.out (fun k_ hk => (⟨hk, hk.2⟩ : _ ∧ k_ ≠ gb1000))) (fun _ hk => hk.2) (.int .i64 ((rd_T37 t973 x19_4).f0))) (fun _ hk => hk.2) (.int .i64 ((rd_T37 t973 x19_4).f1))) (fun _ hk => hk.2) (.int .i64 ((rd_T37 t973 x19_4).f2))) (fun _ hk => hk.2) (.int .i64 ((rd_T37 t973 x19_4).f3))) (fun _ hk => hk.2) (.int .i64 ((rd_T37 t973 x19_4).f4))) (fun _ hk => ⟨hk.1.1.1, ⟨hk.1.1.2, hk.1.2⟩⟩)))⟩; have n2_ : Aside0 (Kd.R (Kd.int .i64) 3 w55 w.heap.size (fun _ => True) v994 t992) := ⟨(by rw [hw]; exact (by (with_reducible repeat (first | apply Kd.R_alloc | apply Kd.R_drewN | apply Kd.R_drew)); exact Kd.R_mono (Kd.R_far (p := ⟨gb1000, 4, none⟩) (Kd.R_far (p := ⟨gb1000, 3, none⟩) (Kd.R_far (p := ⟨gb1000, 2, none⟩) (Kd.R_far (p := ⟨gb1000, 1, none⟩) (Kd.R_far (p := ⟨gb1000, 0, none⟩) (Kd.R_types HO_15.out BK1000.out (by decide)) (fun _ hk => hk.2) (.int .i64 ((rd_T37 t973 x19_4).f0))) (fun _ hk => hk.2) (.int .i64 ((rd_T37 t973 x19_4).f1))) (fun _ hk => hk.2) (.int .i64 ((rd_T37 t973 x19_4).f2))) (fun _ hk => hk.2) (.int .i64 ((rd_T37 t973 x19_4).f3))) (fun _ hk => hk.2) (.int .i64 ((rd_T37 t973 x19_4).f4))) (fun _ hk => trivial)))⟩; have n3_ : Aside0 (Kd.R k37 37 w55 w.heap.size (fun k_ => some k_ ≠ (.slice (some ad999) t973.length co29 : Value).ownBlock ∧ some k_ ≠ (v977 : Value).ownBlock ∧ k_ ≠ gb1000) u17 x17_4) := ⟨(by rw [hw]; exact (by (with_reducible repeat (first | apply Kd.R_alloc | apply Kd.R_drewN | apply Kd.R_drew)); exact Kd.R_mono (Kd.R_far (p := ⟨gb1000, 4, none⟩) (Kd.R_far (p := ⟨gb1000, 3, none⟩) (Kd.R_far (p := ⟨gb1000, 2, none⟩) (Kd.R_far (p := ⟨gb1000, 1, none⟩) (Kd.R_far (p := ⟨gb1000, 0, none⟩) (Kd.R_mono HO_17.out (fun k_ hk => (⟨hk, hk.2⟩ : _ ∧ k_ ≠ gb1000))) (fun _ hk => hk.2) (.int .i64 ((rd_T37 t973 x19_4).f0))) (fun _ hk => hk.2) (.int .i64 ((rd_T37 t973 x19_4).f1))) (fun _ hk => hk.2) (.int .i64 ((rd_T37 t973 x19_4).f2))) (fun _ hk => hk.2) (.int .i64 ((rd_T37 t973 x19_4).f3))) (fun _ hk => hk.2) (.int .i64 ((rd_T37 t973 x19_4).f4))) (fun _ hk => ⟨hk.1.1.1, ⟨hk.1.1.2, hk.1.2⟩⟩)))⟩; have n4_ : Aside0 (w55.heap[gb1000]? = some (.cells #[.int .i64 ((rd_T37 t973 x19_4).f0), .int .i64 ((rd_T37 t973 x19_4).f1), .int .i64 ((rd_T37 t973 x19_4).f2), .int .i64 ((rd_T37 t973 x19_4).f3), .int .i64 ((rd_T37 t973 x19_4).f4)] 37 (0, 0))) := ⟨(by rw [hw]; exact (by (with_reducible repeat (first | refine blk_drewN ?_ _ | refine blk_drew ?_ | refine blk_alloc ?_ _)); refine blk_put (cs := #[.int .i64 ((rd_T37 t973 x19_4).f0), .int .i64 ((rd_T37 t973 x19_4).f1), .int .i64 ((rd_T37 t973 x19_4).f2), .int .i64 ((rd_T37 t973 x19_4).f3), .int .i64 0]) ?_ 4 _ rfl; (with_reducible repeat (first | refine blk_drewN ?_ _ | refine blk_drew ?_ | refine blk_alloc ?_ _)); refine blk_put (cs := #[.int .i64 ((rd_T37 t973 x19_4).f0), .int .i64 ((rd_T37 t973 x19_4).f1), .int .i64 ((rd_T37 t973 x19_4).f2), .int .i64 0, .int .i64 0]) ?_ 3 _ rfl; (with_reducible repeat (first | refine blk_drewN ?_ _ | refine blk_drew ?_ | refine blk_alloc ?_ _)); refine blk_put (cs := #[.int .i64 ((rd_T37 t973 x19_4).f0), .int .i64 ((rd_T37 t973 x19_4).f1), .int .i64 0, .int .i64 0, .int .i64 0]) ?_ 2 _ rfl; (with_reducible repeat (first | refine blk_drewN ?_ _ | refine blk_drew ?_ | refine blk_alloc ?_ _)); refine blk_put (cs := #[.int .i64 ((rd_T37 t973 x19_4).f0), .int .i64 0, .int .i64 0, .int .i64 0, .int .i64 0]) ?_ 1 _ rfl; (with_reducible repeat (first | refine blk_drewN ?_ _ | refine blk_drew ?_ | refine blk_alloc ?_ _)); refine blk_put (cs := #[.int .i64 0, .int .i64 0, .int .i64 0, .int .i64 0, .int .i64 0]) ?_ 0 _ rfl; (with_reducible repeat (first | refine blk_drewN ?_ _ | refine blk_drew ?_ | refine blk_alloc ?_ _)); exact BK1000.out))⟩; have n5_ : Aside0 (Below w.heap.size w w55) := ⟨(by rw [hw]; exact (bg_ GE1000.out))⟩; clear hw; clear HO_10; clear HO_11; clear HO_15; clear HO_17; clear BK1000; clear HB; have HO_10 := n0_; have HO_11 := n1_; have HO_15 := n2_; have HO_17 := n3_; have BK1000 := n4_; have HB := n5_; clear n0_ n1_ n2_ n3_ n4_ n5_; obtain ⟨Ao56, co56, eo56⟩ := Kd.R_slice HO_15.out; subst eo56; have p1001 : 0 ≤ (x19_4 : Int) := od_; have q1001 : x19_4 < (t992.length : Int) := od_; obtain ⟨ad1001, e1001, hx1001_0⟩ := Kd.at_int (Kd.R_reads' HO_15.out).2.2 x19_4 p1001 q1001; cases e1001; replace p1001 := eq_true p1001; replace q1001 := eq_true q1001; obtain ⟨hcz57_0, hcz57_1, hcz57_2, hcz57_3, hcz57_4, hfz57_0, hfz57_1, hfz57_2, hfz57_3, hfz57_4⟩ := ce5_ BK1000.out) | ((with_reducible refine gate_store (t := 3) (p := 95) rfl ?_); refine store_event (t := 3) (p := 95) (v := ?vo_w58) (w1 := (w55.setCell ⟨gb1000, 3, none⟩ (.int .i64 (rd t992 x19_4)))) ?hg ?ho ?hn ?hr ?_; (case ho => rfl); (case hg => rfl); (case hn => rfl); (case hr => first | (go_simp; done) | (go_simp; rfl)); intro w58 hw; have n0_ : Aside0 (Kd.R k37 37 w58 w.heap.size (fun k_ => some k_ ≠ (v977 : Value).ownBlock ∧ some k_ ≠ (u17 : Value).ownBlock ∧ k_ ≠ gb1000) (.slice (some ad999) t973.length co29) t973) := ⟨(by rw [hw]; exact (by (with_reducible repeat (first | apply Kd.R_alloc | apply Kd.R_drewN | apply Kd.R_drew)); exact Kd.R_mono (Kd.R_far (p := ⟨gb1000, 3, none⟩) (Kd.R_mono HO_10.out (fun k_ hk => (⟨hk, hk.2.2⟩ : _ ∧ k_ ≠ gb1000))) (fun _ hk => hk.2) (.int .i64 (rd t992 x19_4))) (fun _ hk => ⟨hk.1.1, ⟨hk.1.2.1, hk.1.2.2⟩⟩)))⟩; have n1_ : Aside0 (Kd.R k37 37 w58 w.heap.size (fun k_ => some k_ ≠ (.slice (some ad999) t973.length co29 : Value).ownBlock ∧ some k_ ≠ (u17 : Value).ownBlock ∧ k_ ≠ gb1000) v977 t974) := ⟨(by rw [hw]; exact (by (with_reducible repeat (first | apply Kd.R_alloc | apply Kd.R_drewN | apply Kd.R_drew)); exact Kd.R_mono (Kd.R_far (p := ⟨gb1000, 3, none⟩) (Kd.R_mono HO_11.out (fun k_ hk => (⟨hk, hk.2.2⟩ : _ ∧ k_ ≠ gb1000))) (fun _ hk => hk.2) (.int .i64 (rd t992 x19_4))) (fun _ hk => ⟨hk.1.1, ⟨hk.1.2.1, hk.1.2.2⟩⟩)))⟩; have n2_ : Aside0 (Kd.R (Kd.int .i64) 3 w58 w.heap.size (fun _ => True) (.slice (some ad1001) t992.length co56) t992) := ⟨(by rw [hw]; exact (by (with_reducible repeat (first | apply Kd.R_alloc | apply Kd.R_drewN | apply Kd.R_drew)); exact Kd.R_mono (Kd.R_far (p := ⟨gb1000, 3, none⟩) (Kd.R_types HO_15.out BK1000.out (by decide)) (fun _ hk => hk.2) (.int .i64 (rd t992 x19_4))) (fun _ hk => trivial)))⟩; have n3_ : Aside0 (Kd.R k37 37 w58 w.heap.size (fun k_ => some k_ ≠ (.slice (some ad999) t973.length co29 : Value).ownBlock ∧ some k_ ≠ (v977 : Value).ownBlock ∧ k_ ≠ gb1000) u17 x17_4) := ⟨(by rw [hw]; exact (by (with_reducible repeat (first | apply Kd.R_alloc | apply Kd.R_drewN | apply Kd.R_drew)); exact Kd.R_mono (Kd.R_far (p := ⟨gb1000, 3, none⟩) (Kd.R_mono HO_17.out (fun k_ hk => (⟨hk, hk.2.2⟩ : _ ∧ k_ ≠ gb1000))) (fun _ hk => hk.2) (.int .i64 (rd t992 x19_4))) (fun _ hk => ⟨hk.1.1, ⟨hk.1.2.1, hk.1.2.2⟩⟩)))⟩; have n4_ : Aside0 (w58.heap[gb1000]? = some (.cells #[.int .i64 ((rd_T37 t973 x19_4).f0), .int .i64 ((rd_T37 t973 x19_4).f1), .int .i64 ((rd_T37 t973 x19_4).f2), .int .i64 (rd t992 x19_4), .int .i64 ((rd_T37 t973 x19_4).f4)] 37 (0, 0))) := ⟨(by rw [hw]; exact (by (with_reducible repeat (first | refine blk_drewN ?_ _ | refine blk_drew ?_ | refine blk_alloc ?_ _)); refine blk_put (cs := #[.int .i64 ((rd_T37 t973 x19_4).f0), .int .i64 ((rd_T37 t973 x19_4).f1), .int .i64 ((rd_T37 t973 x19_4).f2), .int .i64 ((rd_T37 t973 x19_4).f3), .int .i64 ((rd_T37 t973 x19_4).f4)]) ?_ 3 _ rfl; (with_reducible repeat (first | refine blk_drewN ?_ _ | refine blk_drew ?_ | refine blk_alloc ?_ _)); exact BK1000.out))⟩; have n5_ : Aside0 (Below w.heap.size w w58) := ⟨(by rw [hw]; exact (bg_ GE1000.out))⟩; clear hw; clear HO_10; clear HO_11; clear HO_15; clear HO_17; clear BK1000; clear HB; have HO_10 := n0_; have HO_11 := n1_; have HO_15 := n2_; have HO_17 := n3_; have BK1000 := n4_; have HB := n5_; clear n0_ n1_ n2_ n3_ n4_ n5_; obtain ⟨hcz59_0, hcz59_1, hcz59_2, hcz59_3, hcz59_4, hfz59_0, hfz59_1, hfz59_2, hfz59_3, hfz59_4⟩ := ce5_ BK1000.out) | ((with_reducible refine gate_builtin (b := .append) (xs := #[.tmp 103, .tmp 105]) rfl ?_); at_builtin; refine Kd.R_append k37 (w0 := w) w.heap.size rfl (.tmp 103) (.tmp 105) 25 37 (.agg #[(.int .i64 0), (.int .i64 0), (.int .i64 0), (.int .i64 0), (.int .i64 0)]) 40 rfl Try.underlying25 info37 rfl (by decide) (by omega) u17 x17_4 (⟨(rd_T37 t973 x19_4).f0, (rd_T37 t973 x19_4).f1, (rd_T37 t973 x19_4).f2, rd t992 x19_4, (rd_T37 t973 x19_4).f4⟩ : S37) [.int .i64 ((rd_T37 t973 x19_4).f0), .int .i64 ((rd_T37 t973 x19_4).f1), .int .i64 ((rd_T37 t973 x19_4).f2), .int .i64 (rd t992 x19_4), .int .i64 ((rd_T37 t973 x19_4).f4)] (fun k_ => some k_ ≠ (.slice (some ad999) t973.length co29 : Value).ownBlock ∧ some k_ ≠ (v977 : Value).ownBlock ∧ k_ ≠ gb1000) (fun _ => False) rfl rfl ?aP (fun _ hk => hk.elim) ?aF ?aO ?aB ?aS ?aL ?_; (case aP => exact k37_mkM _ _ _ (⟨(rd_T37 t973 x19_4).f0, (rd_T37 t973 x19_4).f1, (rd_T37 t973 x19_4).f2, rd t992 x19_4, (rd_T37 t973 x19_4).f4⟩ : S37)); (case aB => exact (bg_ GE1000.out)); (case aF => exact (fun k_ hk => ⟨Kd.fresh' (Kd.R_lt (pe_ HO_10.out)) k_ hk, Kd.fresh' (Kd.R_lt (pe_ HO_11.out)) k_ hk, Kd.freshB (g := gb1000) (o := .cells #[.int .i64 ((rd_T37 t973 x19_4).f0), .int .i64 ((rd_T37 t973 x19_4).f1), .int .i64 ((rd_T37 t973 x19_4).f2), .int .i64 (rd t992 x19_4), .int .i64 ((rd_T37 t973 x19_4).f4)] 37 (0, 0)) (pb_ BK1000.out) k_ hk⟩)); (case aO => exact (pe_ HO_17.out)); (case aS => exact (below_size (bg_ GE1000.out))); (case aL => have := LMc52.out; omega); intro v1003 w60 ho hb hg hat; rw [← Ny1002.out] at ho; have n_ := as6_ (Kd.R_after (ok := (fun k_ => some k_ ≠ (v977 : Value).ownBlock ∧ k_ ≠ gb1000)) (by (with_reducible repeat (first | apply Kd.R_alloc | apply Kd.R_drewN | apply Kd.R_drew)); exact Kd.R_mono HO_10.out (fun _ hk => ⟨⟨hk.1, hk.2.2⟩, hk.2.1⟩)) hg hat) (Kd.R_after (ok := (fun k_ => some k_ ≠ (.slice (some ad999) t973.length co29 : Value).ownBlock ∧ k_ ≠ gb1000)) (by (with_reducible repeat (first | apply Kd.R_alloc | apply Kd.R_drewN | apply Kd.R_drew)); exact Kd.R_mono HO_11.out (fun _ hk => ⟨⟨hk.1, hk.2.2⟩, hk.2.1⟩)) hg hat) (Kd.R_over' (pe_ HO_15.out) (Kd.R_typed (pe_ HO_17.out)) (by decide) hg) (blk_grown (g := gb1000) (o := .cells #[.int .i64 ((rd_T37 t973 x19_4).f0), .int .i64 ((rd_T37 t973 x19_4).f1), .int .i64 ((rd_T37 t973 x19_4).f2), .int .i64 (rd t992 x19_4), .int .i64 ((rd_T37 t973 x19_4).f4)] 37 (0, 0)) (pb_ BK1000.out) hg (Kd.R_away HO_17.out (fun _ hk => hk.2.2))) (hb) (ho); clear HO_10 HO_11 HO_15 BK1000 HB HO_17; obtain ⟨HO_10, HO_11, HO_15, BK1000, HB, HO1004⟩ := n_; clear ho hb hg hat))
                    go_roundg k4
                    case measure => have := HJ4.out; have := HJ15.out; have := HK3.out; have := HK4.out; omega
                    case rel => exact ⟨(y1002), (x18_4), (wrap64 (x19_4 + 1)), (rs_), (rs_), H', ⟨by have := HJ4.out; have := HJ15.out; have := HK3.out; have := HK4.out; omega⟩, ⟨by (with_reducible repeat (first | apply Kd.R_alloc | apply Kd.R_drewN | apply Kd.R_drew)); exact Kd.R_mono HO_10.out (fun _ hk => ⟨hk.1.1, hk.2⟩)⟩, ⟨by (with_reducible repeat (first | apply Kd.R_alloc | apply Kd.R_drewN | apply Kd.R_drew)); exact Kd.R_mono HO_11.out (fun _ hk => ⟨hk.1.1, hk.2⟩)⟩, ⟨pe_ HO_15.out⟩, ⟨by (with_reducible repeat (first | apply Kd.R_alloc | apply Kd.R_drewN | apply Kd.R_drew)); exact Kd.R_mono HO1004.out (fun _ hk => ⟨hk.1, hk.2.1⟩)⟩, ⟨bg_ GE1000.out⟩⟩
                   ·
                    rw [if_neg c52] at H; exact absurd H (by simp)
                 ·
                  rw [if_neg c43] at H; exact absurd H (by simp)
                ·
                 rw [if_neg c42] at H; exact absurd H (by simp)
               ·
                rw [if_neg c41] at H; have c41b0 : decide (x19_4 < (t973.length : Int)) = false := decide_eq_false c41; clear c41
                by_cases c61 : (x17_4.length : Int) > 0
                ·
                 rw [if_pos c61] at H; have c61b0 : decide (0 < (x17_4.length : Int)) = true := decide_eq_true c61; have c61b1 : decide (0 < x17_4.length) = true := decide_eq_true (by omega)
                 clear c61
                 by_cases c62 : 0 < (x17_4.length : Int)
                 ·
                  rw [if_pos c62] at H; have c62b0 : decide (0 < (x17_4.length : Int)) = true := decide_eq_true c62; have c62b1 : decide (0 < x17_4.length) = true := decide_eq_true (by omega)
                  clear c62; obtain ⟨y1006, hy1006⟩ : ∃ y_ : List (S37), y_ = (x17_4.set (0 : Int).toNat (⟨(rd_T37 x17_4 0).f0, (rd_T37 x17_4 0).f1, (rd_T37 x17_4 0).f2, (rd_T37 x17_4 0).f3, wrap64 (((rd_T37 x17_4 0).f4) + x18_4)⟩ : S37)) := ⟨_, rfl⟩; replace H : ((spec_l5Merge.f k4 t974 y1006).bind fun t1007 => (some (t1007, 0))) = some (r1, r2) := rh_ hy1006 H; have Ny1006 := Aside0.mk hy1006; clear hy1006; replace H := Option.bind_eq_some_iff.mp H; obtain ⟨t1007, A640, H⟩ := H; have A64 := Aside0.mk A640; clear A640; simp only [Option.some.injEq, Prod.mk.injEq] at H; obtain ⟨rfl, rfl⟩ := H; obtain ⟨Ao65, co65, eo65⟩ := Kd.R_slice HO_17.out; subst eo65; have p1005 : 0 ≤ (0 : Int) := (by omega)
                  have q1005 : 0 < (x17_4.length : Int) := od_; obtain ⟨ad1005, e1005, hx1005_0, hx1005_1, hx1005_2, hx1005_3, hx1005_4⟩ := at_T37 (Kd.R_reads' HO_17.out).2.2 0 p1005 q1005; cases e1005; have qi1005 : (0 < x17_4.length) = True := eq_true (by omega)
                  (try rw [show ((0 : Int)).toNat = 0 from rfl] at hx1005_0)
                  (try rw [show 0 * 5 = 0 from rfl] at hx1005_0)
                  (try rw [Addr.add_zero'] at hx1005_0)
                  (try rw [show ((0 : Int)).toNat = 0 from rfl] at hx1005_1)
                  (try rw [show 0 * 5 = 0 from rfl] at hx1005_1)
                  (try rw [Addr.add_zero'] at hx1005_1)
                  (try rw [show ((0 : Int)).toNat = 0 from rfl] at hx1005_2)
                  (try rw [show 0 * 5 = 0 from rfl] at hx1005_2)
                  (try rw [Addr.add_zero'] at hx1005_2)
                  (try rw [show ((0 : Int)).toNat = 0 from rfl] at hx1005_3)
                  (try rw [show 0 * 5 = 0 from rfl] at hx1005_3)
                  (try rw [Addr.add_zero'] at hx1005_3)
                  (try rw [show ((0 : Int)).toNat = 0 from rfl] at hx1005_4)
                  (try rw [show 0 * 5 = 0 from rfl] at hx1005_4)
                  (try rw [Addr.add_zero'] at hx1005_4)
                  replace p1005 := eq_true p1005; replace q1005 := eq_true q1005; have p63 : 0 ≤ (0 : Int) := (by omega)
                  have q63 : (0 : Int) < ((x17_4.length : Int) : Int) := od_; have qi63 : (0 < x17_4.length) = True := eq_true (by omega)
                  obtain ⟨go63, co63, eo63, gb63, gl63, cl63, HG63⟩ := Kd.R_form HO_17.out (by omega)
                  (first | cases eo63 | (injection eo63 with ea_ en_ ec_; (first | subst ea_ | (injection ea_ with ea_; subst ea_)); subst ec_; clear en_))
                  have GB63 := Aside0.mk gb63; have GG63 := Aside0.mk HG63; clear gb63 gl63 HG63; (first | simp only [add_plain] at hx1005_0 | skip)
                  (first | simp only [add_plain] at hx1005_1 | skip)
                  (first | simp only [add_plain] at hx1005_2 | skip)
                  (first | simp only [add_plain] at hx1005_3 | skip)
                  (first | simp only [add_plain] at hx1005_4 | skip)
                  obtain ⟨ce63, hcl63, hM63, hcc63, hfr63⟩ := Kd.R_elem HO_17.out z37 (0 : Int) p63 q63; obtain rfl := k37_openM hM63; have hx63_0 : wr.cell? ⟨go63, (0 : Int).toNat * 5, none⟩ = some (.int .i64 ((rd_T37 x17_4 0).f0)) := hcc63 0 _ rfl; have hx63_1 : wr.cell? ⟨go63, (0 : Int).toNat * 5 + 1, none⟩ = some (.int .i64 ((rd_T37 x17_4 0).f1)) := hcc63 1 _ rfl; have hx63_2 : wr.cell? ⟨go63, (0 : Int).toNat * 5 + 2, none⟩ = some (.int .i64 ((rd_T37 x17_4 0).f2)) := hcc63 2 _ rfl; have hx63_3 : wr.cell? ⟨go63, (0 : Int).toNat * 5 + 3, none⟩ = some (.int .i64 ((rd_T37 x17_4 0).f3)) := hcc63 3 _ rfl; have hx63_4 : wr.cell? ⟨go63, (0 : Int).toNat * 5 + 4, none⟩ = some (.int .i64 ((rd_T37 x17_4 0).f4)) := hcc63 4 _ rfl; have hf63_0 : wr.frozen? ⟨go63, (0 : Int).toNat * 5, none⟩ = false := hfr63 0; have hf63_1 : wr.frozen? ⟨go63, (0 : Int).toNat * 5 + 1, none⟩ = false := hfr63 1; have hf63_2 : wr.frozen? ⟨go63, (0 : Int).toNat * 5 + 2, none⟩ = false := hfr63 2; have hf63_3 : wr.frozen? ⟨go63, (0 : Int).toNat * 5 + 3, none⟩ = false := hfr63 3; have hf63_4 : wr.frozen? ⟨go63, (0 : Int).toNat * 5 + 4, none⟩ = false := hfr63 4; clear hcl63 hcc63 hfr63 hM63; (try rw [show ((0 : Int)).toNat = 0 from rfl] at hx63_0)
                  (try simp only [Nat.reduceMul, Nat.zero_mul, Nat.zero_add, Nat.reduceAdd] at hx63_0)
                  (try rw [show ((0 : Int)).toNat = 0 from rfl] at hf63_0)
                  (try simp only [Nat.reduceMul, Nat.zero_mul, Nat.zero_add, Nat.reduceAdd] at hf63_0)
                  (try rw [show ((0 : Int)).toNat = 0 from rfl] at hx63_1)
                  (try simp only [Nat.reduceMul, Nat.zero_mul, Nat.zero_add, Nat.reduceAdd] at hx63_1)
                  (try rw [show ((0 : Int)).toNat = 0 from rfl] at hf63_1)
                  (try simp only [Nat.reduceMul, Nat.zero_mul, Nat.zero_add, Nat.reduceAdd] at hf63_1)
                  (try rw [show ((0 : Int)).toNat = 0 from rfl] at hx63_2)
                  (try simp only [Nat.reduceMul, Nat.zero_mul, Nat.zero_add, Nat.reduceAdd] at hx63_2)
                  (try rw [show ((0 : Int)).toNat = 0 from rfl] at hf63_2)
                  (try simp only [Nat.reduceMul, Nat.zero_mul, Nat.zero_add, Nat.reduceAdd] at hf63_2)
                  (try rw [show ((0 : Int)).toNat = 0 from rfl] at hx63_3)
                  (try simp only [Nat.reduceMul, Nat.zero_mul, Nat.zero_add, Nat.reduceAdd] at hx63_3)
                  (try rw [show ((0 : Int)).toNat = 0 from rfl] at hf63_3)
                  (try simp only [Nat.reduceMul, Nat.zero_mul, Nat.zero_add, Nat.reduceAdd] at hf63_3)
                  (try rw [show ((0 : Int)).toNat = 0 from rfl] at hx63_4)
                  (try simp only [Nat.reduceMul, Nat.zero_mul, Nat.zero_add, Nat.reduceAdd] at hx63_4)
                  (try rw [show ((0 : Int)).toNat = 0 from rfl] at hf63_4)
                  (try simp only [Nat.reduceMul, Nat.zero_mul, Nat.zero_add, Nat.reduceAdd] at hf63_4)
                  replace p63 := eq_true p63; replace q63 := eq_true q63; have HX66 := Aside0.mk (show Kd.R k37 37 wr w.heap.size (fun k_ => some k_ ≠ (.slice Ao29 t973.length co29 : Value).ownBlock ∧ some k_ ≠ (v977 : Value).ownBlock) (.slice (some ⟨go63, 0, none⟩) x17_4.length co65) x17_4 from (pe_ HO_17.out)); obtain ⟨ce66, hcl66, hM66, hcc66, hfr66⟩ := Kd.R_elem HX66.out z37 (0 : Int) (by omega) (by have h_ : (0 : Int) < ((x17_4.length : Int) : Int) := od_; first | exact h_ | (have e_ := (Kd.R_reads' HO_17.out).1; omega) | simpa using h_); obtain rfl := k37_openM hM66; have HP66 := Kd.R_seg HX66.out (0 : Int) (by omega) (by have h_ : (0 : Int) < ((x17_4.length : Int) : Int) := od_; first | exact h_ | (have e_ := (Kd.R_reads' HO_17.out).1; omega) | simpa using h_) (seg := [.int .i64 (wrap64 (((rd_T37 x17_4 0).f4) + x18_4))]) (j := 4) hcl66 hcc66 (show 5 ≤ 5 from by decide) (x' := (⟨(rd_T37 x17_4 0).f0, (rd_T37 x17_4 0).f1, (rd_T37 x17_4 0).f2, (rd_T37 x17_4 0).f3, wrap64 (((rd_T37 x17_4 0).f4) + x18_4)⟩ : S37)) (k37_mkM _ _ _ (⟨(rd_T37 x17_4 0).f0, (rd_T37 x17_4 0).f1, (rd_T37 x17_4 0).f2, (rd_T37 x17_4 0).f3, wrap64 (((rd_T37 x17_4 0).f4) + x18_4)⟩ : S37) ) (fun _ hk => hk)
                  have hx66_4 := hcc66 4 _ rfl; (try simp only [show (k37).sz = 5 from rfl, Nat.mul_one, Nat.add_zero] at hx66_4)
                  (try rw [show ((0 : Int)).toNat = 0 from rfl] at hx66_4)
                  (try simp only [Nat.reduceMul, Nat.zero_mul, Nat.zero_add, Nat.reduceAdd] at hx66_4)
                  have hf66_4 := hfr66 4; (try simp only [show (k37).sz = 5 from rfl, Nat.mul_one, Nat.add_zero] at hf66_4)
                  (try rw [show ((0 : Int)).toNat = 0 from rfl] at hf66_4)
                  (try simp only [Nat.reduceMul, Nat.zero_mul, Nat.zero_add, Nat.reduceAdd] at hf66_4)
                  clear hcl66 hcc66 hfr66 hM66
                  go_wp2_with (first | ((with_reducible refine gate_store (t := 3) (p := 118) rfl ?_); refine store_event (t := 3) (p := 118) (v := ?vo_w67) (w1 := (wr.setCell ⟨go63, 4, none⟩ (.int .i64 (wrap64 (((rd_T37 x17_4 0).f4) + x18_4))))) ?hg ?ho ?hn ?hr ?_; (case ho => rfl); (case hg => rfl); (case hn => rfl); (case hr => first | (go_simp; done) | (go_simp; rfl)); intro w67 hw; have hg : wr.grownBy w67 (some go63) := (by rw [hw]; exact HP66.2); have hp_ : Kd.R k37 37 w67 w.heap.size (fun k_ => some k_ ≠ (.slice Ao29 t973.length co29 : Value).ownBlock ∧ some k_ ≠ (v977 : Value).ownBlock) (.slice (some ⟨go63, 0, none⟩) x17_4.length co65) y1006 := (by rw [hw, Ny1006.out]; exact HP66.1); clear HP66; have n_ := as5_ (Kd.R_after (v := (.slice (some ⟨go63, 0, none⟩) x17_4.length co65)) (v1 := (.slice (some ⟨go63, 0, none⟩) x17_4.length co65)) (ok := (fun k_ => some k_ ≠ (v977 : Value).ownBlock)) (pe_ HO_10.out) hg (.inl rfl)) (Kd.R_after (v := (.slice (some ⟨go63, 0, none⟩) x17_4.length co65)) (v1 := (.slice (some ⟨go63, 0, none⟩) x17_4.length co65)) (ok := (fun k_ => some k_ ≠ (.slice Ao29 t973.length co29 : Value).ownBlock)) (pe_ HO_11.out) hg (.inl rfl)) (Kd.R_over' (v := (.slice (some ⟨go63, 0, none⟩) x17_4.length co65)) (pe_ HO_15.out) (Kd.R_typed HO_17.out) (by decide) hg) (hp_) ((by rw [hw]; exact below_set (HB.out) GB63.out : Below w.heap.size w w67)); clear HO_10 HO_11 HO_15 HO_17 HB; obtain ⟨HO_10, HO_11, HO_15, HO_17, HB⟩ := n_; clear hg hw hp_; obtain ⟨Ao68, co68, eo68⟩ := Kd.R_slice HO_11.out; subst eo68) | ((with_reducible refine gate_callee (f := 53) rfl ?_); refine goesL_ (some 121) rfl rfl Try.func53 kr_ rfl #[.slice Ao68 t974.length co68, .slice (some ⟨go63, 0, none⟩) y1006.length co65] rfl (by (try simp only [List.map_toArray, List.map_cons, List.map_nil]); first | done | (rw [show y1006.length = x17_4.length from (Kd.R_reads' HO_17.out).1.symm] <;> rfl) | rfl | (simp only [List.length_drop, List.length_take]; rfl)) ?_; (with_reducible refine (spec_l5Merge.calls k4 _ _ t974 _ _ y1006 t1007 _ ?side1 ?side2 ?side3 ?side4 A64.out).mono ?_); (case side1 => exact cc_ (Kd.R_reads' HO_11.out).2.2); (case side2 => exact (Kd.R_reads' HO_11.out).2.1); (case side3 => exact cc_ (Kd.R_reads' HO_17.out).2.2); (case side4 => rw [show y1006.length = x17_4.length from (Kd.R_reads' HO_17.out).1.symm]; exact (Kd.R_reads' HO_17.out).2.1); rintro e w69 ⟨v1008, rfl, ho0, hb⟩; refine ⟨_, rfl, ?_⟩; have n_ := as6_ (Kd.R_elder' (pe_ HO_10.out) (Kd.R_base ho0) hb) (Kd.R_elder' (pe_ HO_11.out) (Kd.R_base ho0) hb) (Kd.R_below (pe_ HO_15.out) hb) (Kd.R_elder' (pe_ HO_17.out) (Kd.R_base ho0) hb) (Kd.R_lower (Kd.R_new' (Kd.R_new' (Kd.R_new' ho0 (Kd.R_lt (pe_ HO_10.out))) (Kd.R_lt (pe_ HO_11.out))) (Kd.R_lt (pe_ HO_17.out))) (below_size (bb_))) (below_step (bb_) hb); clear HO_10 HO_11 HO_15 HO_17 HB; obtain ⟨HO_10, HO_11, HO_15, HO_17, HO1009, HB⟩ := n_; (try clear hb); (try clear ho0)))
                  go_ret2; exact ⟨_, er_, by (with_reducible repeat (first | apply Kd.R_alloc | apply Kd.R_drewN | apply Kd.R_drew)); exact Kd.R_mono HO1009.out (fun _ hk => trivial), bb_⟩
                 ·
                  rw [if_neg c62] at H; exact absurd H (by simp)
                ·
                 rw [if_neg c61] at H; have c61b0 : decide (0 < (x17_4.length : Int)) = false := decide_eq_false c61; have c61b1 : decide (0 < x17_4.length) = false := decide_eq_false (by omega)
                 clear c61; replace H := Option.bind_eq_some_iff.mp H; obtain ⟨t1010, A700, H⟩ := H; have A70 := Aside0.mk A700; clear A700; simp only [Option.some.injEq, Prod.mk.injEq] at H; obtain ⟨rfl, rfl⟩ := H; obtain ⟨Ao71, co71, eo71⟩ := Kd.R_slice HO_17.out; subst eo71; obtain ⟨Ao72, co72, eo72⟩ := Kd.R_slice HO_11.out; subst eo72; go_wp2_with (first | ((with_reducible refine gate_callee (f := 53) rfl ?_); refine goesL_ (some 121) rfl rfl Try.func53 kr_ rfl #[.slice Ao72 t974.length co72, .slice Ao71 x17_4.length co71] rfl (bc_) ?_; (with_reducible refine (spec_l5Merge.calls k4 _ _ t974 _ _ x17_4 t1010 _ ?side1 ?side2 ?side3 ?side4 A70.out).mono ?_); (case side1 => exact cc_ (Kd.R_reads' HO_11.out).2.2); (case side2 => exact (Kd.R_reads' HO_11.out).2.1); (case side3 => exact cc_ (Kd.R_reads' HO_17.out).2.2); (case side4 => exact (Kd.R_reads' HO_17.out).2.1); rintro e w73 ⟨v1011, rfl, ho0, hb⟩; refine ⟨_, rfl, ?_⟩; have n_ := as6_ (Kd.R_elder' (pe_ HO_10.out) (Kd.R_base ho0) hb) (Kd.R_elder' (pe_ HO_11.out) (Kd.R_base ho0) hb) (Kd.R_below (pe_ HO_15.out) hb) (Kd.R_elder' (pe_ HO_17.out) (Kd.R_base ho0) hb) (Kd.R_lower (Kd.R_new' (Kd.R_new' (Kd.R_new' ho0 (Kd.R_lt (pe_ HO_10.out))) (Kd.R_lt (pe_ HO_11.out))) (Kd.R_lt (pe_ HO_17.out))) (below_size (bb_))) (below_step (bb_) hb); clear HO_10 HO_11 HO_15 HO_17 HB; obtain ⟨HO_10, HO_11, HO_15, HO_17, HO1012, HB⟩ := n_; (try clear hb); (try clear ho0)))
                 go_ret2; exact ⟨_, er_, by (with_reducible repeat (first | apply Kd.R_alloc | apply Kd.R_drewN | apply Kd.R_drew)); exact Kd.R_mono HO1012.out (fun _ hk => trivial), bb_⟩
    ·
     rw [if_neg c15] at H; exact absurd H (by simp)
def impl_sumOf.l0 : Nat → Int → List Int → Int → Int → Option (Int)
 | 0, _, _, _, _ => none
 | k + 1, x3, x6, x7, x8 => if x8 < x7 then (if 0 ≤ x8 then (if x8 < (x6.length : Int) then (impl_sumOf.l0 k (wrap64 (x3 + (rd x6 x8))) x6 x7 (wrap64 (x8 + 1))) else (none)) else (none)) else (some x3)
def impl_sumOf.f (k : Nat) (l0 : List Int) : Option (Int) := impl_sumOf.l0 k 0 l0 (l0.length : Int) 0
set_option maxHeartbeats 8000000 in
set_option maxRecDepth 100000 in
theorem impl_sumOf.calls (k : Nat) (A0 : Option Addr) (c0 : Nat) (l0 : List Int) (r : Int) (w : World) (hr0 : Kd.C (Kd.int .i64) w A0 l0.length l0) (hc0 : l0.length ≤ c0) (h : impl_sumOf.f k l0 = some r) :
 Calls Try.prog 94 #[.slice A0 l0.length c0] w fun e w' => e = .returned (.int .i64 r) ∧ Drawn0 w w' := by
 have HR0 := Aside0.mk hr0; have HC0 := Aside0.mk hc0; clear hr0 hc0; have H : (impl_sumOf.l0 k 0 l0 (l0.length : Int) 0) = some r := h; clear h; have H' := Aside0.mk H; clear H; go_enter Try.func94, Try.ntmps94; go_wp2; go_loopg [3, 8] k (fun kq v3 v8 w' => ∃ (x3_1 : Int) (x8_1 : Int), v3 = .int .i64 x3_1 ∧ v8 = .int .i64 x8_1 ∧ Aside0 (impl_sumOf.l0 kq x3_1 l0 (l0.length : Int) x8_1 = some r) ∧ Aside0 (kq ≤ k) ∧ Drawn0 w w')
 case atStart => exact ⟨(0), (0), (rs_), (rs_), H', ⟨Nat.le_refl _⟩, dr_⟩
 case round =>
  clear H'; obtain ⟨x3_1, x8_1, rfl, rfl, HA, HK1, ⟨m1, rfl⟩⟩ := hrel
  cases gk with
  | zero => exact absurd HA.out (by simp [impl_sumOf.l0])
  | succ k1 =>
   have H := HA.out; clear HA; simp only [impl_sumOf.l0] at H
   by_cases c2 : x8_1 < (l0.length : Int)
   ·
    rw [if_pos c2] at H; have c2b0 : decide (x8_1 < (l0.length : Int)) = true := decide_eq_true c2; clear c2
    by_cases c3 : 0 ≤ x8_1
    ·
     rw [if_pos c3] at H; have c3b0 : decide (0 ≤ x8_1) = true := decide_eq_true c3; clear c3
     by_cases c4 : x8_1 < (l0.length : Int)
     ·
      rw [if_pos c4] at H; have c4b0 : decide (x8_1 < (l0.length : Int)) = true := decide_eq_true c4; clear c4; have H' := Aside0.mk H; clear H; have p1013 : 0 ≤ (x8_1 : Int) := od_; have q1013 : x8_1 < (l0.length : Int) := od_; obtain ⟨ad1013, e1013, hx1013_0⟩ := Kd.at_int HR0.out x8_1 p1013 q1013; cases e1013; replace p1013 := eq_true p1013; replace q1013 := eq_true q1013; go_wp2; go_roundg k1
      case measure => have := HK1.out; omega
      case rel => exact ⟨(wrap64 (x3_1 + (rd l0 x8_1))), (wrap64 (x8_1 + 1)), (rs_), (rs_), H', ⟨by have := HK1.out; omega⟩, dr_⟩
     ·
      rw [if_neg c4] at H; exact absurd H (by simp)
    ·
     rw [if_neg c3] at H; exact absurd H (by simp)
   ·
    rw [if_neg c2] at H; have c2b0 : decide (x8_1 < (l0.length : Int)) = false := decide_eq_false c2; clear c2; obtain rfl := Option.some.inj H; go_wp2; go_ret; exact ⟨rs_, dr_⟩
def impl_WeightsOk_1.f (a0 : Int) : Option (Bool) := (impl_in.f a0 0 1000000000000000).bind fun t1014 => (some (!t1014))
set_option maxHeartbeats 8000000 in
set_option maxRecDepth 100000 in
theorem impl_WeightsOk_1.calls (a0 : Int) (r : Bool) (w : World) (h : impl_WeightsOk_1.f a0 = some r) :
 Calls Try.prog 117 #[.int .i64 a0] w fun e w' => e = .returned (.bool r) ∧ Drawn0 w w' := by
 have H : ((impl_in.f a0 0 1000000000000000).bind fun t1014 => (some (!t1014))) = some r := h; clear h; replace H := Option.bind_eq_some_iff.mp H; obtain ⟨t1014, A20, H⟩ := H; have A2 := Aside0.mk A20; clear A20; obtain rfl := Option.some.inj H; go_enter Try.func117, Try.ntmps117; go_wp2_with (first | ((with_reducible refine gate_callee (f := 65) rfl ?_); refine goesL_ (some 4) rfl rfl Try.func65 kr_ rfl #[.int .i64 a0, .int .i64 0, .int .i64 1000000000000000] rfl (bc_) ?_; (with_reducible refine (impl_in.calls a0 0 1000000000000000 t1014 _ A2.out).mono ?_); rintro e w' ⟨rfl, ⟨nd, rfl⟩⟩; refine ⟨_, rfl, ?_⟩))
 go_ret; exact ⟨rs_, dr_⟩
end Go.Proofs.Ytomanpmffjkkgaa.P
namespace Go.Proofs.Ytomanpmffjkkgaa
section
open Go Go.RowKit Go.Proofs.YtomanpmffjkkgaaW.PrintWords Go.Proofs.YtomanpmffjkkgaaW.PrintLast Go.Proofs.YtomanpmffjkkgaaW.PrintMore
theorem ce1_ {w : World} {g : Nat} {t : TypeId} {v0 : Value} (h : w.heap[g]? = some (.cells #[v0] t (0, 0))) : w.cell? ⟨g, 0, none⟩ = some v0 ∧ w.frozen? ⟨g, 0, none⟩ = false := ⟨(blk_cell h 0).trans rfl, blk_frozen h 0⟩
end
end Go.Proofs.Ytomanpmffjkkgaa
namespace Go.Proofs.Ytomanpmffjkkgaa.P
open Go.RowKit Go.Proofs.YtomanpmffjkkgaaW.PrintWords Go.Proofs.YtomanpmffjkkgaaW.PrintLast Go.Proofs.YtomanpmffjkkgaaW.PrintMore
attribute [local go_sem] max2_int min2_int max_two min_two max_three min_three max_four min_four   -- for this text's walks alone
set_option linter.unusedVariables false
set_option linter.unusedSimpArgs false
set_option maxHeartbeats 8000000 in
set_option maxRecDepth 100000 in
theorem IndexFunc_int.calls (A0 : Option Addr) (c0 : Nat) (l0 : List Int) (fc : FuncId) (caps : Array Value) (p : Int → Bool) (w : World) (hr0 : Kd.C (Kd.int .i64) w A0 l0.length l0) (hc0 : l0.length ≤ c0) (hp : X0.FnB Try.prog fc caps w (fun x => .int .i64 x) p) :
 Calls Try.prog 124 #[.slice A0 l0.length c0, .func (.func fc) #[] caps] w fun e w' => e = .returned (.int .i64 (X0.idx p l0)) ∧ Below w.heap.size w w' := by
 obtain ⟨fn, hf, hn, hb, hcall⟩ := hp; have HR0 := Aside0.mk hr0; have HC0 := Aside0.mk hc0; have HF := Aside0.mk hf; have HN := Aside0.mk hn; have HBo := Aside0.mk hb; have HP := Aside0.mk hcall; have HM := Aside0.mk (Kd.C_max hr0); clear hr0 hc0 hf hn hb hcall; have HB := Aside0.mk (Below.refl w.heap.size w); go_enter Try.func124, Try.ntmps124; go_wp2; go_loopg [8] l0.length (fun kq v8 w' => ∃ (x : Int), v8 = .int .i64 x ∧ Aside0 (0 ≤ x ∧ x ≤ l0.length ∧ kq = (l0.length - x).toNat ∧ ∀ j : Nat, j < x.toNat → p (l0.getD j 0) = false) ∧ Aside0 (Below w.heap.size w w'))
 case atStart => exact ⟨0, rfl, ⟨Int.le_refl _, by omega, by omega, fun j hj => by omega⟩, ⟨HB.out⟩⟩
 case round =>
  obtain ⟨x, rfl, HA, HB⟩ := hrel
  by_cases c2 : x < (l0.length : Int)
  ·
   have p1 : 0 ≤ x := HA.out.1; obtain ⟨ad, e, hx⟩ := Kd.at_int HR0.out x p1 c2; cases e; replace hx := pw_cell_below HB.out hx; have c2b0 : decide (x < (l0.length : Int)) = true := decide_eq_true c2; have C2 := Aside0.mk c2; replace p1 := eq_true p1; have q1 := eq_true c2; clear c2
   cases hpx : p (rd l0 x) with
   | true =>
    have HX := Aside0.mk hpx; clear hpx; go_wp2_with (first | ((with_reducible refine gate_dst (N := 16) rfl ?_); refine X0.goesV_ (some 16) rfl rfl caps HF.out HN.out HBo.out #[.int .i64 (rd l0 x)] rfl rfl (by (try simp only [List.map_toArray, List.map_cons, List.map_nil]); first | done | rfl) ?_; refine (HP.out (rd l0 x) _ HB.out).mono ?_; rintro e w6 ⟨rfl, hb6⟩; refine ⟨_, rfl, ?_⟩; rw [HX.out]; replace HB := Aside0.mk (below_step HB.out hb6); clear hb6))
    go_ret
    exact ⟨by
     have := HA.out; have h2 := C2.out; have e1 : rd l0 x = l0.getD x.toNat 0 := rfl; have h3 := HX.out; rw [e1] at h3; rw [X0.idx_found p 0 l0 x.toNat (by omega) this.2.2.2 h3, Int.toNat_of_nonneg this.1]
     rfl, HB.out⟩
   | false =>
    have HX := Aside0.mk hpx; clear hpx; go_wp2_with (first | ((with_reducible refine gate_dst (N := 16) rfl ?_); refine X0.goesV_ (some 16) rfl rfl caps HF.out HN.out HBo.out #[.int .i64 (rd l0 x)] rfl rfl (by (try simp only [List.map_toArray, List.map_cons, List.map_nil]); first | done | rfl) ?_; refine (HP.out (rd l0 x) _ HB.out).mono ?_; rintro e w6 ⟨rfl, hb6⟩; refine ⟨_, rfl, ?_⟩; rw [HX.out]; replace HB := Aside0.mk (below_step HB.out hb6); clear hb6))
    go_roundg (l0.length - (x + 1)).toNat
    case measure => have := HA.out; have := C2.out; omega
    case rel =>
     have h1 := HA.out; have h2 := C2.out; have h4 := HM.out; refine ⟨wrap64 (x + 1), (rs_), ⟨?_⟩, ⟨HB.out⟩⟩
     have hw : wrap64 (x + 1) = x + 1 := by unfold wrap64; omega
     rw [hw]
     refine ⟨by omega, by omega, rfl, fun j hj => ?_⟩
     by_cases hj2 : j < x.toNat
     ·
      exact h1.2.2.2 j hj2
     ·
      obtain rfl : j = x.toNat := by omega
      exact HX.out
  ·
   have c2b0 : decide (x < (l0.length : Int)) = false := decide_eq_false c2; have C2 := Aside0.mk c2; clear c2; go_wp2; go_ret
   exact ⟨by
    have := HA.out; have h2 := C2.out; rw [X0.idx_none p 0 l0 fun j hj => this.2.2.2 j (by omega)]
    rfl, HB.out⟩
set_option maxHeartbeats 8000000 in
set_option maxRecDepth 100000 in
theorem ContainsFunc_int.calls (A0 : Option Addr) (c0 : Nat) (l0 : List Int) (fc : FuncId) (caps : Array Value) (p : Int → Bool) (w : World) (hr0 : Kd.C (Kd.int .i64) w A0 l0.length l0) (hc0 : l0.length ≤ c0) (hp : X0.FnB Try.prog fc caps w (fun x => .int .i64 x) p) :
 Calls Try.prog 116 #[.slice A0 l0.length c0, .func (.func fc) #[] caps] w fun e w' => e = .returned (.bool (l0.any p)) ∧ Below w.heap.size w w' := by
 have HI := Aside0.mk (IndexFunc_int.calls A0 c0 l0 fc caps p w hr0 hc0 hp); clear hr0 hc0 hp; go_enter Try.func116, Try.ntmps116; go_wp2_with (first | (go_at_call 124; refine HI.out.mono ?_; rintro e w6 ⟨rfl, hb6⟩; have HB := Aside0.mk hb6; clear hb6))
 go_ret
 exact ⟨by
  rw [← X0.idx_any p l0]
  rfl, HB.out⟩
def impl_WeightsOk.f (k : Nat) (l0 : List Int) : Option Bool := if 1 ≤ (l0.length : Int) ∧ (l0.length : Int) ≤ 40 ∧ (∀ x ∈ l0, 0 ≤ x ∧ x ≤ 1000000000000000) then ((impl_sumOf.f k l0).bind fun t => (some (decide (1 ≤ t ∧ t ≤ 1000000000000000)))) else (some false)
theorem impl_WeightsOk.in_ (a lo hi : Int) : impl_in.f a lo hi = some (decide (lo ≤ a ∧ a ≤ hi)) := by
 unfold impl_in.f
 by_cases h : a ≥ lo
 ·
  rw [if_pos h]
  congr 1
  rw [Bool.eq_iff_iff, decide_eq_true_iff, decide_eq_true_iff]
  omega
 ·
  rw [if_neg h]
  congr 1
  symm
  rw [decide_eq_false_iff_not]
  omega
theorem impl_WeightsOk.pred (w : World) : X0.FnB Try.prog 117 #[] w (fun x : Int => .int .i64 x) (fun x => !decide (0 ≤ x ∧ x ≤ 1000000000000000)) :=
 ⟨_, Try.func117, by kernel_rfl, rfl, fun x W _ => (impl_WeightsOk_1.calls x (!decide (0 ≤ x ∧ x ≤ 1000000000000000)) W (by unfold impl_WeightsOk_1.f; rw [impl_WeightsOk.in_]; rfl)).mono fun e W' h => ⟨h.1, h.2.below⟩⟩
theorem impl_WeightsOk.calls (k : Nat) (A0 : Option Addr) (c0 : Nat) (l0 : List Int) (r : Bool) (w : World) (hr0 : Kd.C (Kd.int .i64) w A0 l0.length l0) (hc0 : l0.length ≤ c0) (h : impl_WeightsOk.f k l0 = some r) :
 Calls Try.prog 102 #[.slice A0 l0.length c0] w fun e w' => e = .returned (.bool r) ∧ Below w.heap.size w w' := by
 have HR0 := Aside0.mk hr0; have HC0 := Aside0.mk hc0; clear hr0 hc0; have HB := Aside0.mk (Below.refl w.heap.size w); unfold impl_WeightsOk.f at h
 by_cases c1 : 1 ≤ (l0.length : Int) ∧ (l0.length : Int) ≤ 40
 ·
  have HI := Aside0.mk (impl_WeightsOk.in_ (l0.length : Int) 1 40); have HD := Aside0.mk (decide_eq_true c1)
  by_cases c2 : ∀ x ∈ l0, 0 ≤ x ∧ x ≤ 1000000000000000
  ·
   rw [if_pos ⟨c1.1, c1.2, c2⟩] at h
   have HA : Aside0 (l0.any (fun x => !decide (0 ≤ x ∧ x ≤ 1000000000000000)) = false) := ⟨by
    rw [List.any_eq_false]
    intro x hx
    simp [c2 x hx]⟩
   replace h := Option.bind_eq_some_iff.mp h; obtain ⟨t, hs, hr⟩ := h; have HS := Aside0.mk hs; have HJ := Aside0.mk ((impl_WeightsOk.in_ t 1 1000000000000000).trans hr); clear hs hr c1 c2; rw [HD.out] at HI; go_enter Try.func102, Try.ntmps102; go_wp2_with (first | (go_at_call 65; (with_reducible refine (impl_in.calls l0.length 1 40 true _ HI.out).mono ?_); rintro e w' ⟨rfl, ⟨nd, rfl⟩⟩) | ((with_reducible refine gate_callee (f := 116) rfl ?_); (try (refine gate_guard (by rfl) ?_; dsimp only)); refine goesL_ (some 9) rfl rfl Try.func116 kr_ rfl #[.slice A0 l0.length c0, .func (.func 117) #[] #[]] rfl (by (try simp only [List.map_toArray, List.map_cons, List.map_nil]); first | done | rfl) ?_; (with_reducible refine (ContainsFunc_int.calls _ _ l0 _ #[] (fun x => !decide (0 ≤ x ∧ x ≤ 1000000000000000)) _ ?side1 HC0.out (impl_WeightsOk.pred _)).mono ?_); (case side1 => exact cc_ HR0.out); rintro e w6 ⟨rfl, hb⟩; refine ⟨_, rfl, ?_⟩; replace HB := Aside0.mk (below_step (bb_) hb); clear hb; rw [HA.out]) | (go_at_call 94; (with_reducible refine (impl_sumOf.calls k _ _ l0 t _ ?side1 ?side2 HS.out).mono ?_); (case side1 => exact cc_ (Kd.C_below HR0.out HB.out)); (case side2 => exact HC0.out); rintro e w7 ⟨rfl, ⟨nd, rfl⟩⟩) | (go_at_call 65; (with_reducible refine (impl_in.calls t 1 1000000000000000 r _ HJ.out).mono ?_); rintro e w' ⟨rfl, ⟨nd, rfl⟩⟩))
   go_ret; exact ⟨by first | rfl | (simp [*]; done), bb_⟩
  ·
   rw [if_neg (fun hh => c2 hh.2.2)] at h; obtain rfl := Option.some.inj h
   have HA : Aside0 (l0.any (fun x => !decide (0 ≤ x ∧ x ≤ 1000000000000000)) = true) := ⟨by
    rw [List.any_eq_true]
    apply Classical.byContradiction
    intro hn
    apply c2
    intro x hx
    apply Classical.byContradiction
    intro hq
    apply hn
    exact ⟨x, hx, by simp only [decide_eq_false hq, Bool.not_false]⟩⟩
   clear h c1 c2; rw [HD.out] at HI; go_enter Try.func102, Try.ntmps102; go_wp2_with (first | (go_at_call 65; (with_reducible refine (impl_in.calls l0.length 1 40 true _ HI.out).mono ?_); rintro e w' ⟨rfl, ⟨nd, rfl⟩⟩) | ((with_reducible refine gate_callee (f := 116) rfl ?_); (try (refine gate_guard (by rfl) ?_; dsimp only)); refine goesL_ (some 9) rfl rfl Try.func116 kr_ rfl #[.slice A0 l0.length c0, .func (.func 117) #[] #[]] rfl (by (try simp only [List.map_toArray, List.map_cons, List.map_nil]); first | done | rfl) ?_; (with_reducible refine (ContainsFunc_int.calls _ _ l0 _ #[] (fun x => !decide (0 ≤ x ∧ x ≤ 1000000000000000)) _ ?side1 HC0.out (impl_WeightsOk.pred _)).mono ?_); (case side1 => exact cc_ HR0.out); rintro e w6 ⟨rfl, hb⟩; refine ⟨_, rfl, ?_⟩; replace HB := Aside0.mk (below_step (bb_) hb); clear hb; rw [HA.out]))
   go_ret; exact ⟨by first | rfl | (simp [*]; done), bb_⟩
 ·
  rw [if_neg (fun hh => c1 ⟨hh.1, hh.2.1⟩)] at h; obtain rfl := Option.some.inj h; have HI := Aside0.mk (impl_WeightsOk.in_ (l0.length : Int) 1 40); rw [decide_eq_false c1] at HI; clear h c1; go_enter Try.func102, Try.ntmps102; go_wp2_with (first | (go_at_call 65; (with_reducible refine (impl_in.calls l0.length 1 40 false _ HI.out).mono ?_); rintro e w' ⟨rfl, ⟨nd, rfl⟩⟩))
  go_ret; exact ⟨by first | rfl | (simp [*]; done), bb_⟩
def impl_shareable.f (k : Nat) (a0 : Int) (l1 : List Int) : Option (Bool) := (impl_WeightsOk.f k l1).bind fun t1015 => (if t1015 = true then ((impl_in.f a0 0 1000000000000000).bind fun t1016 => (some t1016)) else (some false))
set_option maxHeartbeats 8000000 in
set_option maxRecDepth 100000 in
theorem impl_shareable.calls (k : Nat) (a0 : Int) (A1 : Option Addr) (c1 : Nat) (l1 : List Int) (r : Bool) (w : World) (hr1 : Kd.C (Kd.int .i64) w A1 l1.length l1) (hc1 : l1.length ≤ c1) (h : impl_shareable.f k a0 l1 = some r) :
 Calls Try.prog 92 #[.int .i64 a0, .slice A1 l1.length c1] w fun e w' => e = .returned (.bool r) ∧ Below w.heap.size w w' := by
 have HR1 := Aside0.mk hr1; have HC1 := Aside0.mk hc1; clear hr1 hc1; have HB := Aside0.mk (Below.refl w.heap.size w); have H : ((impl_WeightsOk.f k l1).bind fun t1015 => (if t1015 = true then ((impl_in.f a0 0 1000000000000000).bind fun t1016 => (some t1016)) else (some false))) = some r := h; clear h; replace H := Option.bind_eq_some_iff.mp H; obtain ⟨t1015, A30, H⟩ := H; have A3 := Aside0.mk A30; clear A30
 by_cases c4 : t1015 = true
 ·
  subst c4; replace H := Eq.trans (if_pos rfl).symm H; replace H := Option.bind_eq_some_iff.mp H; obtain ⟨t1016, A50, H⟩ := H; have A5 := Aside0.mk A50; clear A50; obtain rfl := Option.some.inj H; go_enter Try.func92, Try.ntmps92; go_wp2_with (first | ((with_reducible refine gate_callee (f := 102) rfl ?_); refine goesL_ (some 6) rfl rfl Try.func102 kr_ rfl #[.slice A1 l1.length c1] rfl (bc_) ?_; (with_reducible refine (impl_WeightsOk.calls k _ _ l1 true _ ?side1 ?side2 A3.out).mono ?_); (case side1 => exact cc_ HR1.out); (case side2 => exact HC1.out); rintro e w6 ⟨rfl, hb⟩; refine ⟨_, rfl, ?_⟩; replace HB := Aside0.mk (below_step (bb_) hb); (try clear hb)) | (go_at_call 65; (with_reducible refine (impl_in.calls a0 0 1000000000000000 t1016 _ A5.out).mono ?_); rintro e w' ⟨rfl, ⟨nd, rfl⟩⟩))
  go_ret; exact ⟨er_, bb_⟩
 ·
  replace c4 := Bool.eq_false_iff.mpr c4; subst c4; replace H := Eq.trans (if_neg nf_).symm H; obtain rfl := Option.some.inj H; go_enter Try.func92, Try.ntmps92; go_wp2_with (first | ((with_reducible refine gate_callee (f := 102) rfl ?_); refine goesL_ (some 6) rfl rfl Try.func102 kr_ rfl #[.slice A1 l1.length c1] rfl (bc_) ?_; (with_reducible refine (impl_WeightsOk.calls k _ _ l1 false _ ?side1 ?side2 A3.out).mono ?_); (case side1 => exact cc_ HR1.out); (case side2 => exact HC1.out); rintro e w7 ⟨rfl, hb⟩; refine ⟨_, rfl, ?_⟩; replace HB := Aside0.mk (below_step (bb_) hb); (try clear hb)))
  go_ret; exact ⟨er_, bb_⟩
def impl_ShareQuota.j0 : Nat → Int → List Int → Int → Bool → Option (Int × Int × Bool)
 | 0, _, _, _, _ => none
 | k + 1, x0, x1, x2, x20 => if x20 = true then (some (0, 0, false)) else (if 0 ≤ x2 then (if x2 < (x1.length : Int) then ((impl_sumOf.f k x1).bind fun t1020 => ((impl_MulDiv.f k x0 (rd x1 x2) t1020).bind fun bt1021 => (some (bt1021.1, bt1021.2.1, bt1021.2.2)))) else (none)) else (none))
def impl_ShareQuota.f (k : Nat) (a0 : Int) (l1 : List Int) (a2 : Int) : Option (Int × Int × Bool) := (impl_shareable.f k a0 l1).bind fun t1017 => (if t1017 = true then ((impl_in.f a2 0 (wrap64 ((l1.length : Int) - 1))).bind fun t1018 => (impl_ShareQuota.j0 k a0 l1 a2 (!t1018))) else (impl_ShareQuota.j0 k a0 l1 a2 true))
set_option maxHeartbeats 8000000 in
set_option maxRecDepth 100000 in
theorem impl_ShareQuota.calls (k : Nat) (a0 : Int) (A1 : Option Addr) (c1 : Nat) (l1 : List Int) (a2 : Int) (r1 : Int) (r2 : Int) (r3 : Bool) (w : World) (hr1 : Kd.C (Kd.int .i64) w A1 l1.length l1) (hc1 : l1.length ≤ c1) (h : impl_ShareQuota.f k a0 l1 a2 = some (r1, r2, r3)) :
 Calls Try.prog 93 #[.int .i64 a0, .slice A1 l1.length c1, .int .i64 a2] w fun e w' => e = .returned (.tuple #[.int .i64 r1, .int .i64 r2, .bool r3]) ∧ Below w.heap.size w w' := by
 have HR1 := Aside0.mk hr1; have HC1 := Aside0.mk hc1; clear hr1 hc1; have HB := Aside0.mk (Below.refl w.heap.size w); have H : ((impl_shareable.f k a0 l1).bind fun t1017 => (if t1017 = true then ((impl_in.f a2 0 (wrap64 ((l1.length : Int) - 1))).bind fun t1018 => (impl_ShareQuota.j0 k a0 l1 a2 (!t1018))) else (impl_ShareQuota.j0 k a0 l1 a2 true))) = some (r1, r2, r3) := h; clear h; have HC4 := Aside0.mk H; clear H; go_enter Try.func93, Try.ntmps93; go_upto_region 1 with (fail)
 repeat (go_quiet (fail); go_upto_region 1 with (fail))
 go_cut [20] (fun v20 wc => ∃ (kq : Nat) (x20_3 : Bool), v20 = .bool x20_3 ∧ Aside0 (impl_ShareQuota.j0 kq a0 l1 a2 x20_3 = some (r1, r2, r3)) ∧ Aside0 (kq ≤ k) ∧ Aside0 (Below w.heap.size w wc))
 case first =>
  have H := HC4.out; clear HC4; replace H := Option.bind_eq_some_iff.mp H; obtain ⟨t1017, A50, H⟩ := H; have A5 := Aside0.mk A50; clear A50
  by_cases c6 : t1017 = true
  ·
   subst c6; replace H := Eq.trans (if_pos rfl).symm H; replace H := Option.bind_eq_some_iff.mp H; obtain ⟨t1018, A70, H⟩ := H; have A7 := Aside0.mk A70; clear A70; have H' := Aside0.mk H; clear H; go_wp2_with (first | (go_at_call 92; (with_reducible refine (impl_shareable.calls k a0 _ _ l1 true _ ?side1 ?side2 A5.out).mono ?_); (case side1 => exact cc_ (Kd.C_below HR1.out HB.out)); (case side2 => exact HC1.out); rintro e w8 ⟨rfl, hb⟩; replace HB := Aside0.mk (below_step (bb_) hb); (try clear hb)) | (go_at_call 65; (with_reducible refine (impl_in.calls a2 0 (wrap64 ((l1.length : Int) - 1)) t1018 _ A7.out).mono ?_); rintro e w' ⟨rfl, ⟨nd, rfl⟩⟩; (try first | exact ⟨rfl, _, World.drewN_drewN _ _ _⟩ | exact ⟨rfl, _, Eq.trans (World.drewN_drewN _ _ _) (congrArg (World.drewN _) (Nat.add_assoc _ _ _))⟩)))
   repeat (go_quiet (first | (go_at_call 92; (with_reducible refine (impl_shareable.calls k a0 _ _ l1 true _ ?side1 ?side2 A5.out).mono ?_); (case side1 => exact cc_ (Kd.C_below HR1.out HB.out)); (case side2 => exact HC1.out); rintro e w8 ⟨rfl, hb⟩; replace HB := Aside0.mk (below_step (bb_) hb); (try clear hb)) | (go_at_call 65; (with_reducible refine (impl_in.calls a2 0 (wrap64 ((l1.length : Int) - 1)) t1018 _ A7.out).mono ?_); rintro e w' ⟨rfl, ⟨nd, rfl⟩⟩; (try first | exact ⟨rfl, _, World.drewN_drewN _ _ _⟩ | exact ⟨rfl, _, Eq.trans (World.drewN_drewN _ _ _) (congrArg (World.drewN _) (Nat.add_assoc _ _ _))⟩))); try go_wp2_with (first | (go_at_call 92; (with_reducible refine (impl_shareable.calls k a0 _ _ l1 true _ ?side1 ?side2 A5.out).mono ?_); (case side1 => exact cc_ (Kd.C_below HR1.out HB.out)); (case side2 => exact HC1.out); rintro e w8 ⟨rfl, hb⟩; replace HB := Aside0.mk (below_step (bb_) hb); (try clear hb)) | (go_at_call 65; (with_reducible refine (impl_in.calls a2 0 (wrap64 ((l1.length : Int) - 1)) t1018 _ A7.out).mono ?_); rintro e w' ⟨rfl, ⟨nd, rfl⟩⟩; (try first | exact ⟨rfl, _, World.drewN_drewN _ _ _⟩ | exact ⟨rfl, _, Eq.trans (World.drewN_drewN _ _ _) (congrArg (World.drewN _) (Nat.add_assoc _ _ _))⟩))))
   go_meet
   case rel => exact ⟨_, (!t1018), (rs_), H', ⟨le_⟩, ⟨bb_⟩⟩
  ·
   replace c6 := Bool.eq_false_iff.mpr c6; subst c6; have H' := Aside0.mk (Eq.trans (if_neg nf_).symm H); clear H; go_wp2_with (first | (go_at_call 92; (with_reducible refine (impl_shareable.calls k a0 _ _ l1 false _ ?side1 ?side2 A5.out).mono ?_); (case side1 => exact cc_ (Kd.C_below HR1.out HB.out)); (case side2 => exact HC1.out); rintro e w9 ⟨rfl, hb⟩; replace HB := Aside0.mk (below_step (bb_) hb); (try clear hb)))
   repeat (go_quiet (first | (go_at_call 92; (with_reducible refine (impl_shareable.calls k a0 _ _ l1 false _ ?side1 ?side2 A5.out).mono ?_); (case side1 => exact cc_ (Kd.C_below HR1.out HB.out)); (case side2 => exact HC1.out); rintro e w9 ⟨rfl, hb⟩; replace HB := Aside0.mk (below_step (bb_) hb); (try clear hb))); try go_wp2_with (first | (go_at_call 92; (with_reducible refine (impl_shareable.calls k a0 _ _ l1 false _ ?side1 ?side2 A5.out).mono ?_); (case side1 => exact cc_ (Kd.C_below HR1.out HB.out)); (case side2 => exact HC1.out); rintro e w9 ⟨rfl, hb⟩; replace HB := Aside0.mk (below_step (bb_) hb); (try clear hb))))
   go_meet
   case rel => exact ⟨_, (true), (rs_), H', ⟨le_⟩, ⟨bb_⟩⟩
 case rest =>
  clear HC4; try clear c1
  try clear p2
  try clear c6
  try clear p6
  try clear c9
  obtain ⟨kq, x20_3, rfl, HA, HJ3, HB⟩ := hcut
  cases kq with
  | zero => exact absurd HA.out (by simp [impl_ShareQuota.j0])
  | succ kj3 =>
   have H := HA.out; clear HA; simp only [impl_ShareQuota.j0] at H
   by_cases c10 : x20_3 = true
   ·
    subst c10; replace H := Eq.trans (if_pos rfl).symm H; simp only [Option.some.injEq, Prod.mk.injEq] at H; obtain ⟨rfl, rfl, rfl⟩ := H; go_wp2; repeat (go_quiet (fail); try go_wp2)
    go_ret3; exact ⟨er_, bb_⟩
   ·
    replace c10 := Bool.eq_false_iff.mpr c10; subst c10; replace H := Eq.trans (if_neg nf_).symm H
    by_cases c11 : 0 ≤ a2
    ·
     rw [if_pos c11] at H; have c11b0 : decide (0 ≤ a2) = true := decide_eq_true c11; clear c11
     by_cases c12 : a2 < (l1.length : Int)
     ·
      rw [if_pos c12] at H; have c12b0 : decide (a2 < (l1.length : Int)) = true := decide_eq_true c12; clear c12; replace H := Option.bind_eq_some_iff.mp H; obtain ⟨t1020, A130, H⟩ := H; have A13 := Aside0.mk A130; clear A130; replace H := Option.bind_eq_some_iff.mp H; obtain ⟨⟨t1021, t1022, t1023⟩, A140, H⟩ := H; replace H : (some (t1021, t1022, t1023)) = some (r1, r2, r3) := H; have A14 := Aside0.mk A140; clear A140; simp only [Option.some.injEq, Prod.mk.injEq] at H; obtain ⟨rfl, rfl, rfl⟩ := H; have p1019 : 0 ≤ (a2 : Int) := od_; have q1019 : a2 < (l1.length : Int) := od_; obtain ⟨ad1019, e1019, hx1019_0⟩ := Kd.at_int HR1.out a2 p1019 q1019; cases e1019; replace hx1019_0 := cl_ HB.out hx1019_0; replace p1019 := eq_true p1019; replace q1019 := eq_true q1019; go_wp2_with (first | (go_at_call 94; (with_reducible refine (impl_sumOf.calls kj3 _ _ l1 t1020 _ ?side1 ?side2 A13.out).mono ?_); (case side1 => exact cc_ (Kd.C_below HR1.out HB.out)); (case side2 => exact HC1.out); rintro e w' ⟨rfl, ⟨nd, rfl⟩⟩; (try first | exact ⟨rfl, _, World.drewN_drewN _ _ _⟩ | exact ⟨rfl, _, Eq.trans (World.drewN_drewN _ _ _) (congrArg (World.drewN _) (Nat.add_assoc _ _ _))⟩)) | (go_at_call 86; (with_reducible refine (impl_MulDiv.calls kj3 a0 (rd l1 a2) t1020 t1021 t1022 t1023 _ A14.out).mono ?_); rintro e w' ⟨rfl, ⟨nd, rfl⟩⟩; (try first | exact ⟨rfl, _, World.drewN_drewN _ _ _⟩ | exact ⟨rfl, _, Eq.trans (World.drewN_drewN _ _ _) (congrArg (World.drewN _) (Nat.add_assoc _ _ _))⟩)))
      repeat (go_quiet (first | (go_at_call 94; (with_reducible refine (impl_sumOf.calls kj3 _ _ l1 t1020 _ ?side1 ?side2 A13.out).mono ?_); (case side1 => exact cc_ (Kd.C_below HR1.out HB.out)); (case side2 => exact HC1.out); rintro e w' ⟨rfl, ⟨nd, rfl⟩⟩; (try first | exact ⟨rfl, _, World.drewN_drewN _ _ _⟩ | exact ⟨rfl, _, Eq.trans (World.drewN_drewN _ _ _) (congrArg (World.drewN _) (Nat.add_assoc _ _ _))⟩)) | (go_at_call 86; (with_reducible refine (impl_MulDiv.calls kj3 a0 (rd l1 a2) t1020 t1021 t1022 t1023 _ A14.out).mono ?_); rintro e w' ⟨rfl, ⟨nd, rfl⟩⟩; (try first | exact ⟨rfl, _, World.drewN_drewN _ _ _⟩ | exact ⟨rfl, _, Eq.trans (World.drewN_drewN _ _ _) (congrArg (World.drewN _) (Nat.add_assoc _ _ _))⟩))); try go_wp2_with (first | (go_at_call 94; (with_reducible refine (impl_sumOf.calls kj3 _ _ l1 t1020 _ ?side1 ?side2 A13.out).mono ?_); (case side1 => exact cc_ (Kd.C_below HR1.out HB.out)); (case side2 => exact HC1.out); rintro e w' ⟨rfl, ⟨nd, rfl⟩⟩; (try first | exact ⟨rfl, _, World.drewN_drewN _ _ _⟩ | exact ⟨rfl, _, Eq.trans (World.drewN_drewN _ _ _) (congrArg (World.drewN _) (Nat.add_assoc _ _ _))⟩)) | (go_at_call 86; (with_reducible refine (impl_MulDiv.calls kj3 a0 (rd l1 a2) t1020 t1021 t1022 t1023 _ A14.out).mono ?_); rintro e w' ⟨rfl, ⟨nd, rfl⟩⟩; (try first | exact ⟨rfl, _, World.drewN_drewN _ _ _⟩ | exact ⟨rfl, _, Eq.trans (World.drewN_drewN _ _ _) (congrArg (World.drewN _) (Nat.add_assoc _ _ _))⟩))))
      go_ret3; exact ⟨er_, bb_⟩
     ·
      rw [if_neg c12] at H; exact absurd H (by simp)
    ·
     rw [if_neg c11] at H; exact absurd H (by simp)
def impl_ShareOrder.cmp (over : List Int) : X1.Cmp := fun a b => if 0 ≤ a ∧ a < (over.length : Int) ∧ 0 ≤ b ∧ b < (over.length : Int) then some (if rd over b < rd over a then -1 else if rd over a < rd over b then 1 else 0) else none
def impl_ShareOrder.l0 : Nat → Int → List Int → List Int → List Int → Int → Int → Option (List Int)
 | 0, _, _, _, _, _, _ => none
 | k + 1, x0, x1, x5, x6, x18, x19 => if x19 < x18 then ((impl_ShareQuota.f k x0 x1 x19).bind fun bt209 => (if x5.length < 17592186044416 then (if x6.length < 17592186044416 then (impl_ShareOrder.l0 k x0 x1 (x5 ++ [x19]) (x6 ++ [bt209.2.1]) x18 (wrap64 (x19 + 1))) else (none)) else (none))) else (SB.slices_stableCmpFunc_int.f k x5 (x5.length : Int) (impl_ShareOrder.cmp x6))
def impl_ShareOrder.f (k : Nat) (a0 : Int) (l1 : List Int) : Option (List Int) := (impl_shareable.f k a0 l1).bind fun t202 => (if t202 = true then (impl_ShareOrder.l0 k a0 l1 (([] : List Int)) (([] : List Int)) (l1.length : Int) 0) else (some ([] : List Int)))
theorem impl_ShareOrder.stored {base : Nat} {ok : Nat → Prop} {v : Value} {xs : List Int} {W : World} {g : Nat} {cs : Array Value} (h : Kd.R (Kd.int .i64) 3 W base ok v xs) (hb : W.heap[g]? = some (.cells cs 71 (0, 0))) (i : Nat) (u : Value) : Kd.R (Kd.int .i64) 3 (W.setCell ⟨g, i, none⟩ u) base ok v xs :=
 Kd.R_mono (Kd.R_far (Kd.R_types h hb (fun q hq => by rw [List.mem_singleton.1 hq]; decide)) (p := ⟨g, i, none⟩) (fun k hk => hk.2) u) (fun _ hk => hk.1)
set_option maxHeartbeats 2000000 in
set_option maxRecDepth 100000 in
theorem impl_ShareOrder.clo (g : Nat) (A : Option Addr) (c : Nat) (over : List Int) (x y r : Int) (w : World) (hcell : w.cell? ⟨g, 0, none⟩ = some (.slice A over.length c)) (hC : Kd.C (Kd.int .i64) w A over.length over) (h : impl_ShareOrder.cmp over x y = some r) :
 Calls Try.prog 104 #[.int .i64 x, .int .i64 y, .pointer (some ⟨g, 0, none⟩)] w fun e w' => e = .returned (.int .i64 r) ∧ Below w.heap.size w w' := by
 have HB := Aside0.mk (Below.refl w.heap.size w); unfold impl_ShareOrder.cmp at h
 by_cases hh : 0 ≤ x ∧ x < (over.length : Int) ∧ 0 ≤ y ∧ y < (over.length : Int)
 ·
  rw [if_pos hh] at h; obtain ⟨p1, q1, p2, q2⟩ := hh; obtain ⟨ad, e1, hx⟩ := Kd.at_int hC x p1 q1; cases e1; obtain ⟨ad2, e2, hy⟩ := Kd.at_int hC y p2 q2; cases e2; have HR := Aside0.mk hC; clear hC; replace p1 := eq_true p1; replace q1 := eq_true q1; replace p2 := eq_true p2; replace q2 := eq_true q2
  by_cases c1 : rd over y < rd over x
  ·
   rw [if_pos c1] at h; obtain rfl := Option.some.inj h; have c1b := decide_eq_true c1; clear c1 h; go_enter Try.func104, Try.ntmps104; go_wp2; repeat (go_quiet (fail); try go_wp2)
   go_ret; exact ⟨by first | rfl | (simp; done), bb_⟩
  ·
   rw [if_neg c1] at h; have c1b := decide_eq_false c1; clear c1
   by_cases c2 : rd over x < rd over y
   ·
    rw [if_pos c2] at h; obtain rfl := Option.some.inj h; have c2b := decide_eq_true c2; clear c2 h; go_enter Try.func104, Try.ntmps104; go_wp2; repeat (go_quiet (fail); try go_wp2)
    go_ret; exact ⟨by first | rfl | (simp; done), bb_⟩
   ·
    rw [if_neg c2] at h; obtain rfl := Option.some.inj h; have c2b := decide_eq_false c2; clear c2 h; go_enter Try.func104, Try.ntmps104; go_wp2; repeat (go_quiet (fail); try go_wp2)
    go_ret; exact ⟨by first | rfl | (simp; done), bb_⟩
 ·
  rw [if_neg hh] at h; cases h
theorem impl_ShareOrder.fnC {W : World} {base g : Nat} {v5 v6 : Value} {x5 x6 : List Int} {ok5 : Nat → Prop} (h5 : Kd.R (Kd.int .i64) 3 W base ok5 v5 x5) (h6 : Kd.R (Kd.int .i64) 3 W base (fun k_ => some k_ ≠ v5.ownBlock) v6 x6) (hb : W.heap[g]? = some (.cells #[v6] 71 (0, 0))) :
 X1.FnC Try.prog 104 #[.pointer (some ⟨g, 0, none⟩)] W (fun k_ => some k_ = v5.ownBlock) (impl_ShareOrder.cmp x6) := by
 refine ⟨_, Try.func104, by kernel_rfl, rfl, fun x y r W2 hk hc => ?_⟩
 obtain ⟨A6, c6, rfl⟩ := Kd.R_slice h6; have hne : ¬ (some g = v5.ownBlock) := Kd.R_ne h5 hb (by decide)
 exact impl_ShareOrder.clo g A6 c6 x6 x y r W2 ((blk_cell (blk_kept hb hk hne) 0).trans rfl) (Kd.R_reads' (Kd.R_kept h6 hk (fun k h1 h2 => h1 h2))).2.2 hc
set_option maxHeartbeats 8000000 in
set_option maxRecDepth 100000 in
theorem impl_ShareOrder.calls (k : Nat) (a0 : Int) (A1 : Option Addr) (c1 : Nat) (l1 : List Int) (r : List Int) (w : World) (hr1 : Kd.C (Kd.int .i64) w A1 l1.length l1) (hc1 : l1.length ≤ c1) (h : impl_ShareOrder.f k a0 l1 = some r) :
 Calls Try.prog 95 #[.int .i64 a0, .slice A1 l1.length c1] w fun e w' => ∃ v0_ : Value, e = .returned (v0_) ∧ Kd.R (Kd.int .i64) 3 w' w.heap.size (fun _ => True) v0_ r ∧ Below w.heap.size w w' := by
 have HR1 := Aside0.mk hr1; have HC1 := Aside0.mk hc1; clear hr1 hc1; have HB := Aside0.mk (Below.refl w.heap.size w); unfold impl_ShareOrder.f at h
 replace h := Option.bind_eq_some_iff.mp h; obtain ⟨t202, A30, H⟩ := h; have A3 := Aside0.mk A30; clear A30
 by_cases c4 : t202 = true
 ·
  subst c4; rw [if_pos rfl] at H; obtain ⟨y203, hy203⟩ : ∃ y_ : List Int, y_ = (([] : List Int)) := ⟨_, rfl⟩; obtain ⟨y206, hy206⟩ : ∃ y_ : List Int, y_ = (([] : List Int)) := ⟨_, rfl⟩; replace H : (impl_ShareOrder.l0 k a0 l1 y203 y206 (l1.length : Int) 0) = some r := by rw [hy203, hy206]; exact H
  have Ny203 := Aside0.mk hy203; clear hy203; have Ny206 := Aside0.mk hy206; clear hy206; have H' := Aside0.mk H; clear H; go_enter Try.func95, Try.ntmps95
  go_wp2_with (first | ((with_reducible refine gate_callee (f := 92) rfl ?_); refine goesL_ (some 13) rfl rfl Try.func92 kr_ rfl #[.int .i64 a0, .slice A1 l1.length c1] rfl (bc_) ?_; (with_reducible refine (impl_shareable.calls k a0 _ _ l1 true _ ?side1 ?side2 A3.out).mono ?_); (case side1 => exact cc_ HR1.out); (case side2 => exact HC1.out); rintro e w5 ⟨rfl, hb⟩; refine ⟨_, rfl, ?_⟩; replace HB := Aside0.mk (below_step (bb_) hb); (try clear hb)) | ((with_reducible refine gate_dst (N := 15) rfl ?_); refine Kd.R_lit (Kd.int .i64) _ 3 ?hg (N := 15) ?hd (xs := ([] : List Int)) (inner := []) (ok := fun _ => True) (okp := fun _ => True) ?hr ?hp (fun _ hk => hk) trivial (Below.refl _ _) (Nat.le_refl _) (by simp) ?_; (case hd => rfl); (case hg => rfl); (case hr => first | (go_simp; done) | (go_simp; rfl)); (case hp => exact (Reps.none _ _)); intro v204 w6 ho7 hb hg_ hnew_; clear hg_ hnew_; rw [← Ny203.out] at ho7; have n_ := as2_ (Kd.R_lower ho7 (below_size (bb_))) (below_step (bb_) hb); clear HB; obtain ⟨HO205, HB⟩ := n_; clear hb ho7) | ((with_reducible refine gate_dst (N := 16) rfl ?_); refine Kd.R_lit (Kd.int .i64) _ 3 ?hg (N := 16) ?hd (xs := ([] : List Int)) (inner := []) (ok := fun _ => True) (okp := fun _ => True) ?hr ?hp (fun _ hk => hk) trivial (Below.refl _ _) (Nat.le_refl _) (by simp) ?_; (case hd => rfl); (case hg => rfl); (case hr => first | (go_simp; done) | (go_simp; rfl)); (case hp => exact (Reps.none _ _)); intro v207 w8 ho9 hb hg_ hnew_; clear hg_ hnew_; rw [← Ny206.out] at ho9; have n_ := as3_ (Kd.R_elder' (pe_ HO205.out) (Kd.R_base ho9) hb) (Kd.R_lower (Kd.R_new' ho9 (Kd.R_lt (pe_ HO205.out))) (below_size (bb_))) (below_step (bb_) hb); clear HO205 HB; obtain ⟨HO205, HO208, HB⟩ := n_; clear hb ho9; obtain ⟨A208, c208, e208⟩ := Kd.R_slice HO208.out; subst e208) | ((with_reducible refine gate_dst (N := 6) rfl ?_); refine be_ 6 (cs := #[.slice none 0 0]) (t := 71) ?_; intro gb hg w12 hbox hb; have n_ := as5_ (Kd.R_below (pe_ HO205.out) hb) (Kd.R_below (pe_ HO208.out) hb) (below_step (bb_) hb) hbox ((gs_ hg : w.heap.size ≤ gb)); clear HO205 HO208 HB; obtain ⟨HO205, HO208, HB, BK, GE⟩ := n_; clear hb hbox hg; obtain ⟨hcz, hfz⟩ := ce1_ BK.out))
  go_loopg [5, 19] k (fun kq v5 v19 w' => ∃ (v6 : Value) (x5_1 : List Int) (x6_1 : List Int) (x19_1 : Int), v19 = .int .i64 x19_1 ∧ Aside0 (impl_ShareOrder.l0 kq a0 l1 x5_1 x6_1 (l1.length : Int) x19_1 = some r) ∧ Aside0 (kq ≤ k) ∧ Aside0 (Kd.R (Kd.int .i64) 3 w' w.heap.size (fun k_ => some k_ ≠ (v6 : Value).ownBlock) v5 x5_1) ∧ Aside0 (Kd.R (Kd.int .i64) 3 w' w.heap.size (fun k_ => some k_ ≠ (v5 : Value).ownBlock) v6 x6_1) ∧ Aside0 (w'.heap[gb]? = some (.cells #[v6] 71 (0, 0))) ∧ Aside0 (Below w.heap.size w w'))
  case atStart => exact ⟨_, (y203), (y206), (0), (rs_), H', ⟨Nat.le_refl _⟩, ⟨impl_ShareOrder.stored (Kd.R_mono HO205.out (fun _ hk => hk.2)) BK.out _ _⟩, ⟨impl_ShareOrder.stored (Kd.R_mono HO208.out (fun _ hk => hk.2)) BK.out _ _⟩, ⟨blk_set BK.out 0 _⟩, ⟨below_set HB.out GE.out⟩⟩
  case round =>
   clear H' hcz hfz HO205 HO208 HB BK; (try clear c4); obtain ⟨v6, x5_1, x6_1, x19_1, rfl, HA, HK1, HO_5, HO_6, BK, HB⟩ := hrel
   cases gk with
   | zero => exact absurd HA.out (by simp [impl_ShareOrder.l0])
   | succ k1 =>
    have H := HA.out; clear HA; simp only [impl_ShareOrder.l0] at H
    by_cases c10 : x19_1 < (l1.length : Int)
    ·
     rw [if_pos c10] at H; have c10b0 : decide (x19_1 < (l1.length : Int)) = true := decide_eq_true c10; clear c10; replace H := Option.bind_eq_some_iff.mp H; obtain ⟨⟨t209, t210, t211⟩, A110, H⟩ := H; replace H : (if x5_1.length < 17592186044416 then (if x6_1.length < 17592186044416 then (impl_ShareOrder.l0 k1 a0 l1 (x5_1 ++ [x19_1]) (x6_1 ++ [t210]) (l1.length : Int) (wrap64 (x19_1 + 1))) else (none)) else (none)) = some r := H; have A11 := Aside0.mk A110; clear A110
     by_cases c12 : x5_1.length < 17592186044416
     ·
      rw [if_pos c12] at H; have LMc12 := Aside0.mk c12; clear c12
      by_cases c13 : x6_1.length < 17592186044416
      ·
       rw [if_pos c13] at H; have LMc13 := Aside0.mk c13; clear c13; obtain ⟨y212, hy212⟩ : ∃ y_ : List Int, y_ = (x5_1 ++ [x19_1]) := ⟨_, rfl⟩; obtain ⟨y215, hy215⟩ : ∃ y_ : List Int, y_ = (x6_1 ++ [t210]) := ⟨_, rfl⟩; rw [← hy212, ← hy215] at H; have Ny212 := Aside0.mk hy212; clear hy212; have Ny215 := Aside0.mk hy215; clear hy215; have H' := Aside0.mk H; clear H
       go_wp2_with (first | ((with_reducible refine gate_callee (f := 93) rfl ?_); refine goesL_ (some 26) rfl rfl Try.func93 kr_ rfl #[.int .i64 a0, .slice A1 l1.length c1, .int .i64 x19_1] rfl (bc_) ?_; (with_reducible refine (impl_ShareQuota.calls k1 a0 _ _ l1 x19_1 t209 t210 t211 _ ?side1 ?side2 A11.out).mono ?_); (case side1 => exact cc_ (Kd.C_below HR1.out HB.out)); (case side2 => exact HC1.out); rintro e w14 ⟨rfl, hb⟩; refine ⟨_, rfl, ?_⟩; have n_ := as4_ (Kd.R_below (pe_ HO_5.out) hb) (Kd.R_below (pe_ HO_6.out) hb) (below_step (bb_) hb) (blk_below BK.out hb); clear HO_5 HO_6 HB BK; obtain ⟨HO_5, HO_6, HB, BK⟩ := n_; (try clear hb)) | ((with_reducible refine gate_builtin (b := .append) (xs := #[.tmp 30, .tmp 32]) rfl ?_); at_builtin; refine Kd.R_append (Kd.int .i64) (w0 := w) w.heap.size rfl (.tmp 30) (.tmp 32) 71 3 (.int .i64 0) 8 rfl Try.underlying71 info3 rfl (by decide) (by omega) u5 x5_1 x19_1 [.int .i64 x19_1] (fun k_ => some k_ ≠ (v6 : Value).ownBlock) (fun _ => False) rfl rfl ?aP (fun _ hk => hk.elim) ?aF ?aO ?aB ?aS ?aL ?_; (case aP => exact rfl); (case aB => exact (bb_)); (case aF => exact (fun k_ hk => Kd.fresh' (Kd.R_lt (pe_ HO_6.out)) k_ hk)); (case aO => exact (pe_ HO_5.out)); (case aS => exact (below_size (bb_))); (case aL => have := LMc12.out; omega); intro v213 w15 ho hb hg hat; rw [← Ny212.out] at ho; have n_ := as4_ (Kd.R_after (ok := (fun _ => True)) (by (with_reducible repeat (first | apply Kd.R_alloc | apply Kd.R_drewN | apply Kd.R_drew)); exact Kd.R_mono HO_6.out (fun _ hk => ⟨trivial, hk⟩)) hg hat) (hb) (ho) (blk_grown (g := gb) (pb_ BK.out) hg (Kd.R_ne HO_5.out BK.out (by decide))); clear HO_6 HB HO_5 BK; obtain ⟨HO_6, HB, HO214, BK⟩ := n_; clear ho hb hg hat; have hcz : w15.cell? ⟨gb, 0, none⟩ = some v6 := (blk_cell BK.out 0).trans rfl) | ((with_reducible refine gate_builtin (b := .append) (xs := #[.tmp 34, .tmp 36]) rfl ?_); at_builtin; refine Kd.R_append (Kd.int .i64) (w0 := w) w.heap.size rfl (.tmp 34) (.tmp 36) 71 3 (.int .i64 0) 8 rfl Try.underlying71 info3 rfl (by decide) (by omega) v6 x6_1 t210 [.int .i64 t210] (fun k_ => some k_ ≠ (v213 : Value).ownBlock) (fun _ => False) rfl rfl ?aP (fun _ hk => hk.elim) ?aF ?aO ?aB ?aS ?aL ?_; (case aP => exact rfl); (case aB => exact (bb_)); (case aF => exact (fun k_ hk => Kd.fresh' (Kd.R_lt (pe_ HO214.out)) k_ hk)); (case aO => exact (by (with_reducible repeat (first | apply Kd.R_alloc | apply Kd.R_drewN | apply Kd.R_drew)); exact Kd.R_mono HO_6.out (fun _ hk => hk.2))); (case aS => exact (below_size (bb_))); (case aL => have := LMc13.out; omega); intro v216 w16 ho hb hg hat; rw [← Ny215.out] at ho; have n_ := as4_ (Kd.R_after (ok := (fun _ => True)) (by (with_reducible repeat (first | apply Kd.R_alloc | apply Kd.R_drewN | apply Kd.R_drew)); exact Kd.R_mono HO214.out (fun _ hk => ⟨trivial, hk⟩)) hg hat) (hb) (ho) (blk_grown (g := gb) (pb_ BK.out) hg (Kd.R_ne HO_6.out BK.out (by decide))); clear HO214 HB HO_6 BK; obtain ⟨HO214, HB, HO217, BK⟩ := n_; clear ho hb hg hat hcz; obtain ⟨A217, c217, e217⟩ := Kd.R_slice HO217.out; subst e217; obtain ⟨hcz, hfz⟩ := ce1_ BK.out))
       go_roundg k1
       case measure => have := HK1.out; omega
       case rel => exact ⟨_, (y212), (y215), (wrap64 (x19_1 + 1)), (rs_), H', ⟨by have := HK1.out; omega⟩, ⟨impl_ShareOrder.stored (Kd.R_mono HO214.out (fun _ hk => hk.2)) BK.out _ _⟩, ⟨impl_ShareOrder.stored HO217.out BK.out _ _⟩, ⟨blk_set BK.out 0 _⟩, ⟨below_set HB.out GE.out⟩⟩
      ·
       rw [if_neg c13] at H; exact absurd H (by simp)
     ·
      rw [if_neg c12] at H; exact absurd H (by simp)
    ·
     rw [if_neg c10] at H; have c10b0 : decide (x19_1 < (l1.length : Int)) = false := decide_eq_false c10; clear c10; have H' := Aside0.mk H; clear H; go_wp2_with (go_at_call 103; refine (SB.SortStable.calls k1 (fun k_ => some k_ = (u5 : Value).ownBlock) _ x5_1 (impl_ShareOrder.cmp x6_1) 104 #[.pointer (some ⟨gb, 0, none⟩)] r w _ HB.out (Kd.R_tight rfl HO_5.out) (impl_ShareOrder.fnC HO_5.out HO_6.out BK.out) H'.out).mono ?_; rintro e w17 ⟨rfl, ho, hb, hk⟩; have HO := Aside0.mk ho; clear HB; have HB := Aside0.mk hb; clear ho hb hk)
     go_ret; exact ⟨_, rs_, Kd.R_mono HO.out (fun _ hk => trivial), bb_⟩
 ·
  replace c4 := Bool.eq_false_iff.mpr c4; subst c4; rw [if_neg (show ¬ (false = true) by decide)] at H; obtain rfl := Option.some.inj H; go_enter Try.func95, Try.ntmps95; go_wp2_with (first | ((with_reducible refine gate_callee (f := 92) rfl ?_); refine goesL_ (some 13) rfl rfl Try.func92 kr_ rfl #[.int .i64 a0, .slice A1 l1.length c1] rfl (bc_) ?_; (with_reducible refine (impl_shareable.calls k a0 _ _ l1 false _ ?side1 ?side2 A3.out).mono ?_); (case side1 => exact cc_ HR1.out); (case side2 => exact HC1.out); rintro e w17 ⟨rfl, hb⟩; refine ⟨_, rfl, ?_⟩; replace HB := Aside0.mk (below_step (bb_) hb); (try clear hb)))
  go_ret; exact ⟨_, rs_, Kd.R_nil _ _ _ _ _, bb_⟩
mutual
def impl_Shares.l0 : Nat → Int → List Int → List Int → Int → Int → Option (List Int × Bool)
 | 0, _, _, _, _, _ => none
 | k + 1, x0, x1, x6, x20, x21 => if x21 < x20 then ((impl_ShareQuota.f k x0 x1 x21).bind fun bt1028 => (if x6.length < 17592186044416 then (impl_Shares.l0 k x0 x1 (x6 ++ [bt1028.1]) x20 (wrap64 (x21 + 1))) else (none))) else ((impl_sumOf.f k x6).bind fun t1034 => ((impl_ShareOrder.f k x0 x1).bind fun t1035 => (if 0 ≤ (wrap64 (x0 - t1034)) then (if (wrap64 (x0 - t1034)) ≤ (t1035.length : Int) then ((some (t1035.take ((wrap64 (x0 - t1034)) : Int).toNat : List Int)).bind fun y1038 => (impl_Shares.l1 k x6 y1038 (y1038.length : Int) 0)) else (none)) else (none))))
def impl_Shares.l1 : Nat → List Int → List Int → Int → Int → Option (List Int × Bool)
 | 0, _, _, _, _ => none
 | k + 1, x6, x45, x46, x47 => if x47 < x46 then (if 0 ≤ x47 then (if x47 < (x45.length : Int) then (if 0 ≤ (rd x45 x47) then (if (rd x45 x47) < (x6.length : Int) then (impl_Shares.l1 k (x6.set ((rd x45 x47) : Int).toNat (wrap64 ((rd x6 (rd x45 x47)) + 1))) x45 x46 (wrap64 (x47 + 1))) else (none)) else (none)) else (none)) else (none)) else (some (x6, true))
end
def impl_Shares.f (k : Nat) (a0 : Int) (l1 : List Int) : Option (List Int × Bool) := (impl_shareable.f k a0 l1).bind fun t1024 => (if t1024 = true then (impl_Shares.l0 k a0 l1 (([] : List Int)) (l1.length : Int) 0) else (some (([] : List Int), false)))
set_option maxHeartbeats 8000000 in
set_option maxRecDepth 100000 in
theorem impl_Shares.calls (k : Nat) (a0 : Int) (A1 : Option Addr) (c1 : Nat) (l1 : List Int) (r1 : List Int) (r2 : Bool) (w : World) (hr1 : Kd.C (Kd.int .i64) w A1 l1.length l1) (hc1 : l1.length ≤ c1) (h : impl_Shares.f k a0 l1 = some (r1, r2)) :
 Calls Try.prog 73 #[.int .i64 a0, .slice A1 l1.length c1] w fun e w' => ∃ v0_ : Value, e = .returned (.tuple #[v0_, .bool r2]) ∧ Kd.R (Kd.int .i64) 3 w' w.heap.size (fun _ => True) v0_ r1 ∧ Below w.heap.size w w' := by
 have HR1 := Aside0.mk hr1; have HC1 := Aside0.mk hc1; clear hr1 hc1; have HB := Aside0.mk (Below.refl w.heap.size w); have H : ((impl_shareable.f k a0 l1).bind fun t1024 => (if t1024 = true then (impl_Shares.l0 k a0 l1 (([] : List Int)) (l1.length : Int) 0) else (some (([] : List Int), false)))) = some (r1, r2) := h; clear h; replace H := Option.bind_eq_some_iff.mp H; obtain ⟨t1024, A30, H⟩ := H; have A3 := Aside0.mk A30; clear A30
 by_cases c4 : t1024 = true
 ·
  subst c4; replace H := Eq.trans (if_pos rfl).symm H; obtain ⟨y1025, hy1025⟩ : ∃ y_ : List Int, y_ = (([] : List Int)) := ⟨_, rfl⟩; replace H : (impl_Shares.l0 k a0 l1 y1025 (l1.length : Int) 0) = some (r1, r2) := rh_ hy1025 H; have Ny1025 := Aside0.mk hy1025; clear hy1025; have H' := Aside0.mk H; clear H; go_enter Try.func73, Try.ntmps73; go_wp2_with (first | ((with_reducible refine gate_callee (f := 92) rfl ?_); refine goesL_ (some 16) rfl rfl Try.func92 kr_ rfl #[.int .i64 a0, .slice A1 l1.length c1] rfl (bc_) ?_; (with_reducible refine (impl_shareable.calls k a0 _ _ l1 true _ ?side1 ?side2 A3.out).mono ?_); (case side1 => exact cc_ HR1.out); (case side2 => exact HC1.out); rintro e w5 ⟨rfl, hb⟩; refine ⟨_, rfl, ?_⟩; replace HB := Aside0.mk (below_step (bb_) hb); (try clear hb)) | ((with_reducible refine gate_dst (N := 18) rfl ?_); refine Kd.R_lit (Kd.int .i64) _ 3 ?hg (N := 18) ?hd (xs := ([] : List Int)) (inner := []) (ok := fun _ => True) (okp := fun _ => True) ?hr ?hp (fun _ hk => hk) trivial (Below.refl _ _) (Nat.le_refl _) (by simp) ?_; (case hd => rfl); (case hg => rfl); (case hr => first | (go_simp; done) | (go_simp; rfl)); (case hp => exact (Reps.none _ _)); intro v1026 w6 ho7 hb hg_ hnew_; clear hg_ hnew_; (first | rw [← Ny1025.out] at ho7 | (simp only [Int.reduceToNat] at ho7; rw [← Ny1025.out] at ho7)); have n_ := as2_ (Kd.R_lower ho7 (below_size (bb_))) (below_step (bb_) hb); clear HB; obtain ⟨HO1027, HB⟩ := n_; clear hb ho7))
  go_loopg [6, 21] k (fun kq v6 v21 w' => ∃ (x6_1 : List Int) (x21_1 : Int), v21 = .int .i64 x21_1 ∧ Aside0 (impl_Shares.l0 kq a0 l1 x6_1 (l1.length : Int) x21_1 = some (r1, r2)) ∧ Aside0 (kq ≤ k) ∧ Aside0 (Kd.R (Kd.int .i64) 3 w' w.heap.size (fun _ => True) v6 x6_1) ∧ Aside0 (Below w.heap.size w w'))
  case atStart => exact ⟨(y1025), (0), (rs_), H', ⟨Nat.le_refl _⟩, ⟨pe_ HO1027.out⟩, ⟨bb_⟩⟩
  case round =>
   clear H'; (try clear c1); (try clear p2); (try clear c4); (try clear c7); obtain ⟨x6_1, x21_1, rfl, HA, HK1, HO_6, HB⟩ := hrel
   cases gk with
   | zero => exact absurd HA.out (by simp [impl_Shares.l0])
   | succ k1 =>
    have H := HA.out; clear HA; simp only [impl_Shares.l0] at H
    by_cases c8 : x21_1 < (l1.length : Int)
    ·
     rw [if_pos c8] at H; have c8b0 : decide (x21_1 < (l1.length : Int)) = true := decide_eq_true c8; clear c8; replace H := Option.bind_eq_some_iff.mp H; obtain ⟨⟨t1028, t1029, t1030⟩, A90, H⟩ := H; replace H : (if x6_1.length < 17592186044416 then (impl_Shares.l0 k1 a0 l1 (x6_1 ++ [t1028]) (l1.length : Int) (wrap64 (x21_1 + 1))) else (none)) = some (r1, r2) := H; have A9 := Aside0.mk A90; clear A90
     by_cases c10 : x6_1.length < 17592186044416
     ·
      rw [if_pos c10] at H; have LMc10 := Aside0.mk c10; clear c10; obtain ⟨y1031, hy1031⟩ : ∃ y_ : List Int, y_ = (x6_1 ++ [t1028]) := ⟨_, rfl⟩; replace H : (impl_Shares.l0 k1 a0 l1 y1031 (l1.length : Int) (wrap64 (x21_1 + 1))) = some (r1, r2) := rh_ hy1031 H; have Ny1031 := Aside0.mk hy1031; clear hy1031; have H' := Aside0.mk H; clear H
      go_wp2_with (first | ((with_reducible refine gate_callee (f := 93) rfl ?_); refine goesL_ (some 28) rfl rfl Try.func93 kr_ rfl #[.int .i64 a0, .slice A1 l1.length c1, .int .i64 x21_1] rfl (bc_) ?_; (with_reducible refine (impl_ShareQuota.calls k1 a0 _ _ l1 x21_1 t1028 t1029 t1030 _ ?side1 ?side2 A9.out).mono ?_); (case side1 => exact cc_ (Kd.C_below HR1.out HB.out)); (case side2 => exact HC1.out); rintro e w11 ⟨rfl, hb⟩; refine ⟨_, rfl, ?_⟩; have n_ := as2_ (Kd.R_below (pe_ HO_6.out) hb) (below_step (bb_) hb); clear HO_6 HB; obtain ⟨HO_6, HB⟩ := n_; (try clear hb)) | ((with_reducible refine gate_builtin (b := .append) (xs := #[.tmp 32, .tmp 34]) rfl ?_); at_builtin; refine Kd.R_append (Kd.int .i64) (w0 := w) w.heap.size rfl (.tmp 32) (.tmp 34) 71 3 (.int .i64 0) 8 rfl Try.underlying71 info3 rfl (by decide) (by omega) u6 x6_1 t1028 [.int .i64 t1028] (fun _ => True) (fun _ => False) rfl rfl ?aP (fun _ hk => hk.elim) ?aF ?aO ?aB ?aS ?aL ?_; (case aP => exact rfl); (case aB => exact (bb_)); (case aF => exact (fun _ _ => trivial)); (case aO => exact (pe_ HO_6.out)); (case aS => exact (below_size (bb_))); (case aL => have := LMc10.out; omega); intro v1032 w12 ho hb hg hat; rw [← Ny1031.out] at ho; have n_ := as2_ (hb) (ho); clear HB HO_6; obtain ⟨HB, HO1033⟩ := n_; clear ho hb hg hat))
      go_roundg k1
      case measure => have := HK1.out; omega
      case rel => exact ⟨(y1031), (wrap64 (x21_1 + 1)), (rs_), H', ⟨by have := HK1.out; omega⟩, ⟨pe_ HO1033.out⟩, ⟨bb_⟩⟩
     ·
      rw [if_neg c10] at H; exact absurd H (by simp)
    ·
     rw [if_neg c8] at H; have c8b0 : decide (x21_1 < (l1.length : Int)) = false := decide_eq_false c8; clear c8; replace H := Option.bind_eq_some_iff.mp H; obtain ⟨t1034, A130, H⟩ := H; have A13 := Aside0.mk A130; clear A130; replace H := Option.bind_eq_some_iff.mp H; obtain ⟨t1035, A140, H⟩ := H; have A14 := Aside0.mk A140; clear A140; obtain ⟨ji15, hji15⟩ : ∃ j_ : Int, (wrap64 (a0 - t1034)) = j_ := ⟨_, rfl⟩; replace H : (if 0 ≤ (ji15) then (if (ji15) ≤ (t1035.length : Int) then ((some (t1035.take ((ji15) : Int).toNat : List Int)).bind fun y1038 => (impl_Shares.l1 k1 x6_1 y1038 (y1038.length : Int) 0)) else (none)) else (none)) = some (r1, r2) := rj_ hji15 H; (try rw [hji15] at A13)
     (try rw [hji15] at A14)
     have hji15w : (IntKind.i64.wrap (a0 - t1034)) = ji15 := (i64_w _).trans hji15
     by_cases c16 : 0 ≤ (ji15)
     ·
      rw [if_pos c16] at H; have c16b0 := eq_true c16; have c16b1 : decide (0 ≤ (ji15)) = true := decide_eq_true c16; clear c16
      by_cases c17 : (ji15) ≤ (t1035.length : Int)
      ·
       rw [if_pos c17] at H; have c17b0 := eq_true c17; have c17b1 : decide ((ji15) ≤ (t1035.length : Int)) = true := decide_eq_true c17; clear c17; obtain ⟨y1038, hy1038⟩ : ∃ y_ : List Int, y_ = (t1035.take ((ji15) : Int).toNat) := ⟨_, rfl⟩; replace H : (impl_Shares.l1 k1 x6_1 y1038 (y1038.length : Int) 0) = some (r1, r2) := rh_ hy1038 H; have Ny1038 := Aside0.mk hy1038; clear hy1038; have H' := Aside0.mk H; clear H; obtain ⟨Ao18, co18, eo18⟩ := Kd.R_slice HO_6.out; subst eo18
       go_wp2_with (first | ((with_reducible refine gate_callee (f := 94) rfl ?_); refine goesL_ (some 39) rfl rfl Try.func94 kr_ rfl #[.slice Ao18 x6_1.length co18] rfl (bc_) ?_; (with_reducible refine (impl_sumOf.calls k1 _ _ x6_1 t1034 _ ?side1 ?side2 A13.out).mono ?_); (case side1 => exact cc_ (Kd.R_reads' HO_6.out).2.2); (case side2 => exact (Kd.R_reads' HO_6.out).2.1); rintro e w' ⟨rfl, ⟨nd, rfl⟩⟩; refine ⟨_, rfl, ?_⟩) | ((with_reducible refine gate_callee (f := 95) rfl ?_); refine goesL_ (some 43) rfl rfl Try.func95 kr_ rfl #[.int .i64 a0, .slice A1 l1.length c1] rfl (bc_) ?_; (with_reducible refine (impl_ShareOrder.calls k1 a0 _ _ l1 t1035 _ ?side1 ?side2 A14.out).mono ?_); (case side1 => exact cc_ ((Kd.C_below HR1.out (bb_)))); (case side2 => exact HC1.out); rintro e w19 ⟨v1036, rfl, ho0, hb⟩; refine ⟨_, rfl, ?_⟩; have n_ := as3_ (Kd.R_elder' (pe_ HO_6.out) (Kd.R_base ho0) hb) (Kd.R_lower (Kd.R_new' ho0 (Kd.R_lt (pe_ HO_6.out))) (below_size (bb_))) (below_step (bb_) hb); clear HO_6 HB; obtain ⟨HO_6, HO1037, HB⟩ := n_; (try clear hb); (try clear ho0); obtain ⟨Ao21, co21, eo21⟩ := Kd.R_slice HO1037.out; subst eo21; have q20 : ((ji15) : Int) ≤ ((t1035.length : Int) : Int) := od_; obtain ⟨i020, hi020, _, hsz20, _⟩ := info_parts info3; have hroom20 : t1035.length ≤ co21 := (Kd.R_reads' HO1037.out).2.1; have hC20 : Kd.C (Kd.int .i64) _ Ao21 t1035.length t1035 := (Kd.R_reads' HO1037.out).2.2; have hcut20 := cut_to (P := Try.prog) 71 3 .i64 Try.underlying71 hi020 Ao21 t1035.length co21 (ji15) (od_) q20 hroom20; have hr20 := Kd.C_take (m := ((ji15) : Int).toNat) hC20 (by omega); have hy20 : y1038.length = ((ji15) : Int).toNat := (by rw [Ny1038.out, List.length_take]; omega); rw [← Ny1038.out] at hr20; rw [← hy20] at hcut20; have HR1041 := Aside0.mk hr20; have HC1041 := Aside0.mk (show y1038.length ≤ co21 from by omega); clear hr20 hC20 hroom20 hi020 hsz20; have KY20 := Aside0.mk hy20; clear hy20; have KL20 := Aside0.mk (show ((ji15) : Int).toNat ≤ t1035.length from by omega); replace q20 := eq_true q20))
       go_loopg [47] k1 (fun kq v47 w' => ∃ (x6_2 : List Int) (x47_2 : Int), v47 = .int .i64 x47_2 ∧ Aside0 (impl_Shares.l1 kq x6_2 y1038 (y1038.length : Int) x47_2 = some (r1, r2)) ∧ Aside0 (kq ≤ k1) ∧ Aside0 (Kd.R (Kd.int .i64) 3 w' w.heap.size (fun _ => True) (.slice Ao18 x6_1.length co18) x6_2) ∧ Aside0 (Below w.heap.size w w') ∧ Aside0 (Kd.R (Kd.int .i64) 3 w' w.heap.size (fun k_ => True ∧ some k_ ≠ ((.slice Ao18 x6_1.length co18) : Value).ownBlock) (.slice Ao21 t1035.length co21) t1035))
       case atStart => exact ⟨(x6_1), (0), (rs_), H', ⟨Nat.le_refl _⟩, ⟨by (with_reducible repeat (first | apply Kd.R_alloc | apply Kd.R_drewN | apply Kd.R_drew)); exact Kd.R_mono HO_6.out (fun _ hk => trivial)⟩, ⟨bb_⟩, ⟨HO1037.out⟩⟩
       case round =>
        clear H'; (try clear c1); (try clear p2); (try clear q2); (try clear c4); (try clear p6); (try clear c7); (try clear c8b0); (try clear c9); (try clear c16b0); (try clear c16b1); (try clear c17b0); (try clear c17b1); (try clear q20); (try clear p2); (try clear q20); clear HO_6 HO1037 HR1041; obtain ⟨x6_2, x47_2, rfl, HA, HK2, HO_6, HB, HO1037⟩ := hrel; have hr_ := Kd.C_take (m := ((ji15) : Int).toNat) (Kd.R_reads' HO1037.out).2.2 (by have := KL20.out; omega)
        rw [← Ny1038.out] at hr_; have HR1041 := Aside0.mk hr_; clear hr_; have hl6_2 := (Kd.R_reads' HO_6.out).1; rw [hl6_2] at HO_6; (try simp only [hl6_2])
        cases gk with
        | zero => exact absurd HA.out (by simp [impl_Shares.l1])
        | succ k2 =>
         have H := HA.out; clear HA; simp only [impl_Shares.l1] at H
         by_cases c22 : x47_2 < (y1038.length : Int)
         ·
          rw [if_pos c22] at H; have c22b0 : decide (x47_2 < (y1038.length : Int)) = true := decide_eq_true c22; clear c22
          by_cases c23 : 0 ≤ x47_2
          ·
           rw [if_pos c23] at H; have c23b0 : decide (0 ≤ x47_2) = true := decide_eq_true c23; clear c23
           by_cases c24 : x47_2 < (y1038.length : Int)
           ·
            rw [if_pos c24] at H; have c24b0 : decide (x47_2 < (y1038.length : Int)) = true := decide_eq_true c24; clear c24
            by_cases c25 : 0 ≤ (rd y1038 x47_2)
            ·
             rw [if_pos c25] at H; have c25b0 : decide (0 ≤ (rd y1038 x47_2)) = true := decide_eq_true c25; clear c25
             by_cases c26 : (rd y1038 x47_2) < (x6_2.length : Int)
             ·
              rw [if_pos c26] at H; have c26b0 : decide ((rd y1038 x47_2) < (x6_2.length : Int)) = true := decide_eq_true c26; clear c26; obtain ⟨y1044, hy1044⟩ : ∃ y_ : List Int, y_ = (x6_2.set ((rd y1038 x47_2) : Int).toNat (wrap64 ((rd x6_2 (rd y1038 x47_2)) + 1))) := ⟨_, rfl⟩; replace H : (impl_Shares.l1 k2 y1044 y1038 (y1038.length : Int) (wrap64 (x47_2 + 1))) = some (r1, r2) := rh_ hy1044 H; have Ny1044 := Aside0.mk hy1044; clear hy1044; have H' := Aside0.mk H; clear H; have p1042 : 0 ≤ (x47_2 : Int) := od_; have q1042 : x47_2 < (y1038.length : Int) := od_; obtain ⟨ad1042, e1042, hx1042_0⟩ := Kd.at_int HR1041.out x47_2 p1042 q1042; cases e1042; replace p1042 := eq_true p1042; replace q1042 := eq_true q1042; have p1043 : 0 ≤ ((rd y1038 x47_2) : Int) := od_; have q1043 : (rd y1038 x47_2) < (x6_2.length : Int) := od_; obtain ⟨ad1043, e1043, hx1043_0⟩ := Kd.at_int (Kd.R_reads' HO_6.out).2.2 (rd y1038 x47_2) p1043 q1043; cases e1043; replace p1043 := eq_true p1043; replace q1043 := eq_true q1043; have p27 : 0 ≤ ((rd y1038 x47_2) : Int) := od_; have q27 : ((rd y1038 x47_2) : Int) < ((x6_2.length : Int) : Int) := od_; obtain ⟨go27, co27, eo27, gb27, gl27, cl27, HG27⟩ := Kd.R_form HO_6.out (by omega)
              (first | cases eo27 | (injection eo27 with ea_ en_ ec_; (first | subst ea_ | (injection ea_ with ea_; subst ea_)); subst ec_; clear en_))
              have GB27 := Aside0.mk gb27; have GG27 := Aside0.mk HG27; clear gb27 gl27 HG27; (first | simp only [add_plain] at hx1043_0 | skip)
              obtain ⟨hx27_0, hf27_0⟩ := Kd.R_celln 0 HO_6.out ((rd y1038 x47_2) : Int) p27 q27; replace p27 := eq_true p27; replace q27 := eq_true q27; have HP28 := Kd.R_putg HO_6.out ((rd y1038 x47_2) : Int) (wrap64 ((rd x6_2 (rd y1038 x47_2)) + 1)); go_wp2_with (first | ((with_reducible refine gate_store (t := 3) (p := 56) rfl ?_); refine store_event (t := 3) (p := 56) (v := ?vo_w29) (w1 := (wr.setCell ⟨go27, ((rd y1038 x47_2) : Int).toNat, none⟩ (.int .i64 (wrap64 ((rd x6_2 (rd y1038 x47_2)) + 1))))) ?hg ?ho ?hn ?hr ?_; (case ho => rfl); (case hg => rfl); (case hn => rfl); (case hr => first | (go_simp; done) | (go_simp; rfl)); intro w29 hw; have hg : wr.grownBy w29 (some go27) := (by rw [hw]; exact HP28.2); have hp_ : Kd.R (Kd.int .i64) 3 w29 w.heap.size (fun _ => True) (.slice (some ⟨go27, 0, none⟩) x6_2.length co18) y1044 := (by rw [hw, Ny1044.out]; exact HP28.1); clear HP28; have n_ := as3_ (hp_) ((by rw [hw]; exact below_set (HB.out) GB27.out : Below w.heap.size w w29)) (Kd.R_grown HO1037.out hg (fun k_ hk_ => hk_.2)); clear HO_6 HB HO1037; obtain ⟨HO_6, HB, HO1037⟩ := n_; clear hg hw hp_))
              (try simp only [← hl6_2])
              go_roundg k2
              case measure => have := HK1.out; have := HK2.out; omega
              case rel => exact ⟨(y1044), (wrap64 (x47_2 + 1)), (rs_), H', ⟨by have := HK1.out; have := HK2.out; omega⟩, ⟨by (try simp only [hl6_2]); (with_reducible repeat (first | apply Kd.R_alloc | apply Kd.R_drewN | apply Kd.R_drew)); exact HO_6.out⟩, ⟨bb_⟩, ⟨HO1037.out⟩⟩
             ·
              rw [if_neg c26] at H; exact absurd H (by simp)
            ·
             rw [if_neg c25] at H; exact absurd H (by simp)
           ·
            rw [if_neg c24] at H; exact absurd H (by simp)
          ·
           rw [if_neg c23] at H; exact absurd H (by simp)
         ·
          rw [if_neg c22] at H; have c22b0 : decide (x47_2 < (y1038.length : Int)) = false := decide_eq_false c22; clear c22; simp only [Option.some.injEq, Prod.mk.injEq] at H; obtain ⟨rfl, rfl⟩ := H; go_wp2; go_ret2; exact ⟨_, by first | rfl | (simp [errW_none, errW_some] <;> rfl) | (simp only [← hji15]; first | rfl | (simp [errW_none, errW_some] <;> rfl)) | (simp [*, errW_none, errW_some] <;> rfl), pe_ HO_6.out, bb_⟩
      ·
       rw [if_neg c17] at H; exact absurd H (by simp)
     ·
      rw [if_neg c16] at H; exact absurd H (by simp)
 ·
  replace c4 := Bool.eq_false_iff.mpr c4; subst c4; replace H := Eq.trans (if_neg nf_).symm H; simp only [Option.some.injEq, Prod.mk.injEq] at H; obtain ⟨rfl, rfl⟩ := H; go_enter Try.func73, Try.ntmps73; go_wp2_with (first | ((with_reducible refine gate_callee (f := 92) rfl ?_); refine goesL_ (some 16) rfl rfl Try.func92 kr_ rfl #[.int .i64 a0, .slice A1 l1.length c1] rfl (bc_) ?_; (with_reducible refine (impl_shareable.calls k a0 _ _ l1 false _ ?side1 ?side2 A3.out).mono ?_); (case side1 => exact cc_ HR1.out); (case side2 => exact HC1.out); rintro e w30 ⟨rfl, hb⟩; refine ⟨_, rfl, ?_⟩; replace HB := Aside0.mk (below_step (bb_) hb); (try clear hb)))
  go_ret2; exact ⟨_, er_, by first | exact Kd.R_nil _ _ _ _ _ | exact Kd.N_nil _ _ _ _ _ | exact Kd.V_nil _ _ _ _ _ | exact Kd.Q_nil _ _ _ _ _ | exact Kd.S_nil _ _ _ _ _, bb_⟩
end Go.Proofs.Ytomanpmffjkkgaa.P
