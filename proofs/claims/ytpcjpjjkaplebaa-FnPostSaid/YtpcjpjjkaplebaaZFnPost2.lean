/- What the law FnPost leans on, cut out of this repo's own texts by a program of this repo: plain functions, the walks that tie the Go calls to them, the law over lists and numbers, and the row. -/
import Derived.Test.YtpcjpjjkaplebaaZFnPost1
namespace Go.Proofs.Ytpcjpjjkaplebaa.P
open Go.RowKit Go.Proofs.YtpcjpjjkaplebaaW.PrintWords Go.Proofs.YtpcjpjjkaplebaaW.PrintLast Go.Proofs.YtpcjpjjkaplebaaW.PrintMore
attribute [local go_sem] max2_int min2_int max_two min_two max_three min_three max_four min_four   -- for this text's walks alone
set_option linter.unusedVariables false
set_option linter.unusedSimpArgs false
mutual
def spec_BalsSum.l0 : Nat → List (S58) → Int → Int → Int → Option (Int × Bool)
 | 0, _, _, _, _ => none
 | k + 1, x0, x1, x6, x7 => if x7 < (x0.length : Int) then ((spec_BalsOk.f k x0).bind fun t225 => (spec_BalsSum.j1 k x0 x1 x6 x7 t225)) else (spec_BalsSum.j1 k x0 x1 x6 x7 false)
def spec_BalsSum.j1 : Nat → List (S58) → Int → Int → Int → Bool → Option (Int × Bool)
 | 0, _, _, _, _, _ => none
 | k + 1, x0, x1, x6, x7, x15 => if x15 = true then (if 0 ≤ x7 then (if x7 < (x0.length : Int) then (if ((rd_T58 x0 x7).f1) = x1 then (spec_BalsSum.l0 k x0 x1 (wrap64 (x6 + ((rd_T58 x0 x7).f2))) (wrap64 (x7 + 1))) else (spec_BalsSum.l0 k x0 x1 x6 (wrap64 (x7 + 1)))) else (none)) else (none)) else ((spec_BalsOk.f k x0).bind fun t228 => ((spec_l1Told.f x6 t228).bind fun bt229 => (some (bt229.1, bt229.2))))
end
def spec_BalsSum.f (k : Nat) (l0 : List (S58)) (a1 : Int) : Option (Int × Bool) := spec_BalsSum.l0 k l0 a1 0 0
set_option maxHeartbeats 8000000 in
set_option maxRecDepth 100000 in
theorem spec_BalsSum.calls (k : Nat) (A0 : Option Addr) (c0 : Nat) (l0 : List (S58)) (a1 : Int) (r1 : Int) (r2 : Bool) (w : World) (hr0 : Kd.C k58 w A0 l0.length l0) (hc0 : l0.length ≤ c0) (h : spec_BalsSum.f k l0 a1 = some (r1, r2)) :
 Calls Try.prog 24 #[.slice A0 l0.length c0, .int .i64 a1] w fun e w' => e = .returned (.tuple #[.int .i64 r1, .bool r2]) ∧ Below w.heap.size w w' := by
 have HR0 := Aside0.mk hr0
 have HC0 := Aside0.mk hc0
 clear hr0 hc0
 have HB := Aside0.mk (Below.refl w.heap.size w)
 have H : (spec_BalsSum.l0 k l0 a1 0 0) = some (r1, r2) := h
 clear h
 have H' := Aside0.mk H
 clear H
 go_enter Try.func24, Try.ntmps24
 go_wp2
 go_loopg [6, 7] k (fun kq v6 v7 w' => ∃ (x6_1 : Int) (x7_1 : Int), v6 = .int .i64 x6_1 ∧ v7 = .int .i64 x7_1 ∧ Aside0 (spec_BalsSum.l0 kq l0 a1 x6_1 x7_1 = some (r1, r2)) ∧ Aside0 (kq ≤ k) ∧ Aside0 (Below w.heap.size w w'))
 case atStart => exact ⟨(0), (0), (by first | rfl | (simp; done) | (simp [*]; done)), (by first | rfl | (simp; done) | (simp [*]; done)), H', ⟨Nat.le_refl _⟩, ⟨bb_⟩⟩
 case round =>
  clear H'
  try clear c2
  try clear p2
  obtain ⟨x6_1, x7_1, rfl, rfl, HA, HK1, HB⟩ := hrel
  cases gk with
  | zero => exact absurd HA.out (by simp [spec_BalsSum.l0])
  | succ k1 =>
   have H := HA.out
   clear HA
   simp only [spec_BalsSum.l0] at H
   have HC3 := Aside0.mk H
   clear H
   go_upto_region 3 with (fail)
   go_cut [15] (fun v15 wc => ∃ (kq : Nat) (x15_2 : Bool), v15 = .bool x15_2 ∧ Aside0 (spec_BalsSum.j1 kq l0 a1 x6_1 x7_1 x15_2 = some (r1, r2)) ∧ Aside0 (kq ≤ k1) ∧ Aside0 (Below w.heap.size w wc))
   case first =>
    have H := HC3.out
    clear HC3
    by_cases c4 : x7_1 < (l0.length : Int)
    ·
     rw [if_pos c4] at H
     have c4b0 : decide (x7_1 < (l0.length : Int)) = true := decide_eq_true c4
     clear c4
     (first | rw [c4b0] | (simp only [i64_w, i32_w]; rw [c4b0]) | skip)
     replace H := Option.bind_eq_some_iff.mp H
     obtain ⟨t225, A50, H⟩ := H
     replace H : (spec_BalsSum.j1 k1 l0 a1 x6_1 x7_1 t225) = some (r1, r2) := H
     have A5 := Aside0.mk A50
     clear A50
     have H' := Aside0.mk H
     clear H
     go_wp2_with (first | (go_at_call 13; (with_reducible refine (spec_BalsOk.calls k1 _ _ l0 t225 _ ?side1 ?side2 A5.out).mono ?_); (case side1 => repeat (first | exact (Kd.C_below HR0.out HB.out) | (with_reducible refine Kd.C_alloc ?_ _) | (with_reducible refine Kd.C_drewN ?_ _) | (with_reducible refine Kd.C_drew ?_))); (case side2 => exact HC0.out); rintro e w6 ⟨rfl, hb⟩; have n0_ := Aside0.mk (below_step (bb_) hb); clear HB; have HB := n0_; clear n0_; (try clear hb); (try clear hb2); (try clear hk); (try clear hi)))
     go_meet
     case rel => exact ⟨_, (t225), (by first | rfl | (simp; done) | (simp [*]; done)), H', ⟨by have := HK1.out; first | omega | exact Nat.le_refl _⟩, ⟨bb_⟩⟩
    ·
     rw [if_neg c4] at H
     have c4b0 : decide (x7_1 < (l0.length : Int)) = false := decide_eq_false c4
     clear c4
     (first | rw [c4b0] | (simp only [i64_w, i32_w]; rw [c4b0]) | skip)
     have H' := Aside0.mk H
     clear H
     go_wp2
     go_meet
     case rel => exact ⟨_, (false), (by first | rfl | (simp; done) | (simp [*]; done)), H', ⟨by have := HK1.out; first | omega | exact Nat.le_refl _⟩, ⟨bb_⟩⟩
   case rest =>
    clear HC3
    try clear c2
    try clear p2
    try clear c4
    try clear c4b0
    try clear p2
    obtain ⟨kq, x15_2, rfl, HA, HJ2, HB⟩ := hcut
    cases kq with
    | zero => exact absurd HA.out (by simp [spec_BalsSum.j1])
    | succ kj2 =>
     have H := HA.out
     clear HA
     simp only [spec_BalsSum.j1] at H
     by_cases c7 : x15_2 = true
     ·
      subst c7
      have H1 : (if 0 ≤ x7_1 then (if x7_1 < (l0.length : Int) then (if ((rd_T58 l0 x7_1).f1) = a1 then (spec_BalsSum.l0 kj2 l0 a1 (wrap64 (x6_1 + ((rd_T58 l0 x7_1).f2))) (wrap64 (x7_1 + 1))) else (spec_BalsSum.l0 kj2 l0 a1 x6_1 (wrap64 (x7_1 + 1)))) else (none)) else (none)) = some (r1, r2) := by rw [if_pos rfl] at H; exact H
      clear H
      have H := H1
      clear H1
      by_cases c8 : 0 ≤ x7_1
      ·
       rw [if_pos c8] at H
       have c8b0 : decide (0 ≤ x7_1) = true := decide_eq_true c8
       clear c8
       by_cases c9 : x7_1 < (l0.length : Int)
       ·
        rw [if_pos c9] at H
        have c9b0 : decide (x7_1 < (l0.length : Int)) = true := decide_eq_true c9
        clear c9
        by_cases c10 : ((rd_T58 l0 x7_1).f1) = a1
        ·
         rw [if_pos c10] at H
         have c10b0 : (((rd_T58 l0 x7_1).f1) == a1) = true := beq_iff_eq.mpr c10
         have c10b1 : (((rd_T58 l0 x7_1).f1) != a1) = false := bne_eq_false_iff_eq.mpr c10
         clear c10
         have H' := Aside0.mk H
         clear H
         have p226 : 0 ≤ (x7_1 : Int) := of_decide_eq_true (by first | (with_reducible assumption) | assumption)
         have q226 : x7_1 < (l0.length : Int) := of_decide_eq_true (by first | (with_reducible assumption) | assumption)
         obtain ⟨ad226, e226, hx226_0, hx226_1, hx226_2⟩ := at_T58 HR0.out x7_1 p226 q226
         cases e226
         replace hx226_0 := (HB.out.cell (World.block_lt_of_cell? w _ hx226_0)).trans hx226_0
         replace hx226_1 := (HB.out.cell (World.block_lt_of_cell? w _ hx226_1)).trans hx226_1
         replace hx226_2 := (HB.out.cell (World.block_lt_of_cell? w _ hx226_2)).trans hx226_2
         replace p226 := eq_true p226
         replace q226 := eq_true q226
         have p227 : 0 ≤ (x7_1 : Int) := of_decide_eq_true (by first | (with_reducible assumption) | assumption)
         have q227 : x7_1 < (l0.length : Int) := of_decide_eq_true (by first | (with_reducible assumption) | assumption)
         obtain ⟨ad227, e227, hx227_0, hx227_1, hx227_2⟩ := at_T58 HR0.out x7_1 p227 q227
         obtain rfl : ad226 = ad227 := (by injection e227)
         replace hx227_0 := (HB.out.cell (World.block_lt_of_cell? w _ hx227_0)).trans hx227_0
         replace hx227_1 := (HB.out.cell (World.block_lt_of_cell? w _ hx227_1)).trans hx227_1
         replace hx227_2 := (HB.out.cell (World.block_lt_of_cell? w _ hx227_2)).trans hx227_2
         replace p227 := eq_true p227
         replace q227 := eq_true q227
         go_wp2
         go_roundg kj2
         case measure => have := HK1.out; have := HJ2.out; omega
         case rel => exact ⟨(wrap64 (x6_1 + ((rd_T58 l0 x7_1).f2))), (wrap64 (x7_1 + 1)), (by first | rfl | (simp; done) | (simp [*]; done)), (by first | rfl | (simp; done) | (simp [*]; done)), H', ⟨by have := HK1.out; have := HJ2.out; omega⟩, ⟨bb_⟩⟩
        ·
         rw [if_neg c10] at H
         have c10b0 : (((rd_T58 l0 x7_1).f1) == a1) = false := beq_eq_false_iff_ne.mpr c10
         have c10b1 : (((rd_T58 l0 x7_1).f1) != a1) = true := bne_iff_ne.mpr c10
         have H' := Aside0.mk H
         clear H
         have p226 : 0 ≤ (x7_1 : Int) := of_decide_eq_true (by first | (with_reducible assumption) | assumption)
         have q226 : x7_1 < (l0.length : Int) := of_decide_eq_true (by first | (with_reducible assumption) | assumption)
         obtain ⟨ad226, e226, hx226_0, hx226_1, hx226_2⟩ := at_T58 HR0.out x7_1 p226 q226
         cases e226
         replace hx226_0 := (HB.out.cell (World.block_lt_of_cell? w _ hx226_0)).trans hx226_0
         replace hx226_1 := (HB.out.cell (World.block_lt_of_cell? w _ hx226_1)).trans hx226_1
         replace hx226_2 := (HB.out.cell (World.block_lt_of_cell? w _ hx226_2)).trans hx226_2
         replace p226 := eq_true p226
         replace q226 := eq_true q226
         go_wp2
         go_roundg kj2
         case measure => have := HK1.out; have := HJ2.out; omega
         case rel => exact ⟨(x6_1), (wrap64 (x7_1 + 1)), (by first | rfl | (simp; done) | (simp [*]; done)), (by first | rfl | (simp; done) | (simp [*]; done)), H', ⟨by have := HK1.out; have := HJ2.out; omega⟩, ⟨bb_⟩⟩
       ·
        rw [if_neg c9] at H
        exact absurd H (by simp)
      ·
       rw [if_neg c8] at H
       exact absurd H (by simp)
     ·
      replace c7 := Bool.eq_false_iff.mpr c7
      subst c7
      have H1 : ((spec_BalsOk.f kj2 l0).bind fun t228 => ((spec_l1Told.f x6_1 t228).bind fun bt229 => (some (bt229.1, bt229.2)))) = some (r1, r2) := by rw [if_neg (show ¬ (false = true) by decide)] at H; exact H
      clear H
      have H := H1
      clear H1
      replace H := Option.bind_eq_some_iff.mp H
      obtain ⟨t228, A110, H⟩ := H
      replace H : ((spec_l1Told.f x6_1 t228).bind fun bt229 => (some (bt229.1, bt229.2))) = some (r1, r2) := H
      have A11 := Aside0.mk A110
      clear A110
      replace H := Option.bind_eq_some_iff.mp H
      obtain ⟨⟨t229, t230⟩, A120, H⟩ := H
      replace H : (some (t229, t230)) = some (r1, r2) := H
      have A12 := Aside0.mk A120
      clear A120
      simp only [Option.some.injEq, Prod.mk.injEq] at H
      obtain ⟨rfl, rfl⟩ := H
      go_wp2_with (first | ((with_reducible refine gate_callee (f := 13) rfl ?_); refine goesL_ (some 34) rfl rfl Try.func13 (by kernel_rfl) rfl #[.slice A0 l0.length c0] rfl (by (try simp only [List.map_toArray, List.map_cons, List.map_nil]); first | done | rfl | (simp only [List.length_drop, List.length_take]; rfl)) ?_; (with_reducible refine (spec_BalsOk.calls kj2 _ _ l0 t228 _ ?side1 ?side2 A11.out).mono ?_); (case side1 => repeat (first | exact (Kd.C_below HR0.out HB.out) | (with_reducible refine Kd.C_alloc ?_ _) | (with_reducible refine Kd.C_drewN ?_ _) | (with_reducible refine Kd.C_drew ?_))); (case side2 => exact HC0.out); rintro e w13 ⟨rfl, hb⟩; refine ⟨_, rfl, ?_⟩; have n0_ := Aside0.mk (below_step (bb_) hb); clear HB; have HB := n0_; clear n0_; (try clear hb); (try clear hb2); (try clear hk); (try clear hi)) | ((with_reducible refine gate_callee (f := 55) rfl ?_); refine goesL_ (some 35) rfl rfl Try.func55 (by kernel_rfl) rfl #[.int .i64 x6_1, .bool t228] rfl (by (try simp only [List.map_toArray, List.map_cons, List.map_nil]); first | done | rfl | (simp only [List.length_drop, List.length_take]; rfl)) ?_; (with_reducible refine (spec_l1Told.calls x6_1 t228 t229 t230 _ A12.out).mono ?_); rintro e w' ⟨rfl, ⟨nd, rfl⟩⟩; refine ⟨_, rfl, ?_⟩))
      go_ret2
      exact ⟨by first | rfl | (simp [errW_none, errW_some] <;> rfl) | (simp [*, errW_none, errW_some] <;> rfl), bb_⟩
def impl_amount.f (a0 : Int) : Option (Int × Bool) := (impl_AmountOk.f a0).bind fun t231 => (if t231 = true then (some (a0, true)) else (some (0, false)))
set_option maxHeartbeats 8000000 in
set_option maxRecDepth 100000 in
theorem impl_amount.calls (a0 : Int) (r1 : Int) (r2 : Bool) (w : World) (h : impl_amount.f a0 = some (r1, r2)) :
 Calls Try.prog 56 #[.int .i64 a0] w fun e w' => e = .returned (.tuple #[.int .i64 r1, .bool r2]) ∧ Drawn0 w w' := by
 have H : ((impl_AmountOk.f a0).bind fun t231 => (if t231 = true then (some (a0, true)) else (some (0, false)))) = some (r1, r2) := h
 clear h
 replace H := Option.bind_eq_some_iff.mp H
 obtain ⟨t231, A20, H⟩ := H
 replace H : (if t231 = true then (some (a0, true)) else (some (0, false))) = some (r1, r2) := H
 have A2 := Aside0.mk A20
 clear A20
 by_cases c3 : t231 = true
 ·
  subst c3
  have H1 : (some (a0, true)) = some (r1, r2) := by rw [if_pos rfl] at H; exact H
  clear H
  have H := H1
  clear H1
  simp only [Option.some.injEq, Prod.mk.injEq] at H
  obtain ⟨rfl, rfl⟩ := H
  go_enter Try.func56, Try.ntmps56
  go_wp2_with (first | ((with_reducible refine gate_callee (f := 46) rfl ?_); refine goesL_ (some 5) rfl rfl Try.func46 (by kernel_rfl) rfl #[.int .i64 a0] rfl (by (try simp only [List.map_toArray, List.map_cons, List.map_nil]); first | done | rfl | (simp only [List.length_drop, List.length_take]; rfl)) ?_; (with_reducible refine (impl_AmountOk.calls a0 true _ A2.out).mono ?_); rintro e w' ⟨rfl, ⟨nd, rfl⟩⟩; refine ⟨_, rfl, ?_⟩))
  go_ret2
  exact ⟨by first | rfl | (simp; done) | (simp [*]; done), by repeat (first | exact Drawn0.refl _ | apply Drawn0.step)⟩
 ·
  replace c3 := Bool.eq_false_iff.mpr c3
  subst c3
  have H1 : (some (0, false)) = some (r1, r2) := by rw [if_neg (show ¬ (false = true) by decide)] at H; exact H
  clear H
  have H := H1
  clear H1
  simp only [Option.some.injEq, Prod.mk.injEq] at H
  obtain ⟨rfl, rfl⟩ := H
  go_enter Try.func56, Try.ntmps56
  go_wp2_with (first | ((with_reducible refine gate_callee (f := 46) rfl ?_); refine goesL_ (some 5) rfl rfl Try.func46 (by kernel_rfl) rfl #[.int .i64 a0] rfl (by (try simp only [List.map_toArray, List.map_cons, List.map_nil]); first | done | rfl | (simp only [List.length_drop, List.length_take]; rfl)) ?_; (with_reducible refine (impl_AmountOk.calls a0 false _ A2.out).mono ?_); rintro e w' ⟨rfl, ⟨nd, rfl⟩⟩; refine ⟨_, rfl, ?_⟩))
  go_ret2
  exact ⟨by first | rfl | (simp; done) | (simp [*]; done), by repeat (first | exact Drawn0.refl _ | apply Drawn0.step)⟩
def impl_balsSum.l0 : Nat → Int → Int → List (S58) → Int → Int → Option (Int)
 | 0, _, _, _, _, _ => none
 | k + 1, x1, x5, x8, x9, x10 => if x10 < x9 then (if 0 ≤ x10 then (if x10 < (x8.length : Int) then (if ((rd_T58 x8 x10).f1) = x1 then (impl_balsSum.l0 k x1 (wrap64 (x5 + ((rd_T58 x8 x10).f2))) x8 x9 (wrap64 (x10 + 1))) else (impl_balsSum.l0 k x1 x5 x8 x9 (wrap64 (x10 + 1)))) else (none)) else (none)) else (some x5)
def impl_balsSum.f (k : Nat) (l0 : List (S58)) (a1 : Int) : Option (Int) := impl_balsSum.l0 k a1 0 l0 (l0.length : Int) 0
set_option maxHeartbeats 8000000 in
set_option maxRecDepth 100000 in
theorem impl_balsSum.calls (k : Nat) (A0 : Option Addr) (c0 : Nat) (l0 : List (S58)) (a1 : Int) (r : Int) (w : World) (hr0 : Kd.C k58 w A0 l0.length l0) (hc0 : l0.length ≤ c0) (h : impl_balsSum.f k l0 a1 = some r) :
 Calls Try.prog 57 #[.slice A0 l0.length c0, .int .i64 a1] w fun e w' => e = .returned (.int .i64 r) ∧ Below w.heap.size w w' := by
 have hu58 := Try.underlying58
 have HR0 := Aside0.mk hr0
 have HC0 := Aside0.mk hc0
 clear hr0 hc0
 have HB := Aside0.mk (Below.refl w.heap.size w)
 have H : (impl_balsSum.l0 k a1 0 l0 (l0.length : Int) 0) = some r := h
 clear h
 have H' := Aside0.mk H
 clear H
 go_enter Try.func57, Try.ntmps57
 go_wp2
 go_loopg [5, 10] k (fun kq v5 v10 w' => ∃ (x5_1 : Int) (x10_1 : Int), v5 = .int .i64 x5_1 ∧ v10 = .int .i64 x10_1 ∧ Aside0 (impl_balsSum.l0 kq a1 x5_1 l0 (l0.length : Int) x10_1 = some r) ∧ Aside0 (kq ≤ k) ∧ Aside0 (Below w.heap.size w w'))
 case atStart => exact ⟨(0), (0), (by first | rfl | (simp; done) | (simp [*]; done)), (by first | rfl | (simp; done) | (simp [*]; done)), H', ⟨Nat.le_refl _⟩, ⟨bb_⟩⟩
 case round =>
  clear H'
  try clear p2
  obtain ⟨x5_1, x10_1, rfl, rfl, HA, HK1, HB⟩ := hrel
  cases gk with
  | zero => exact absurd HA.out (by simp [impl_balsSum.l0])
  | succ k1 =>
   have H := HA.out
   clear HA
   simp only [impl_balsSum.l0] at H
   by_cases c3 : x10_1 < (l0.length : Int)
   ·
    rw [if_pos c3] at H
    have c3b0 : decide (x10_1 < (l0.length : Int)) = true := decide_eq_true c3
    clear c3
    by_cases c4 : 0 ≤ x10_1
    ·
     rw [if_pos c4] at H
     have c4b0 : decide (0 ≤ x10_1) = true := decide_eq_true c4
     clear c4
     by_cases c5 : x10_1 < (l0.length : Int)
     ·
      rw [if_pos c5] at H
      have c5b0 : decide (x10_1 < (l0.length : Int)) = true := decide_eq_true c5
      clear c5
      by_cases c6 : ((rd_T58 l0 x10_1).f1) = a1
      ·
       rw [if_pos c6] at H
       have c6b0 : (((rd_T58 l0 x10_1).f1) == a1) = true := beq_iff_eq.mpr c6
       have c6b1 : (((rd_T58 l0 x10_1).f1) != a1) = false := bne_eq_false_iff_eq.mpr c6
       clear c6
       have H' := Aside0.mk H
       clear H
       have p232 : 0 ≤ (x10_1 : Int) := of_decide_eq_true (by first | (with_reducible assumption) | assumption)
       have q232 : x10_1 < (l0.length : Int) := of_decide_eq_true (by first | (with_reducible assumption) | assumption)
       obtain ⟨ad232, e232, hx232_0, hx232_1, hx232_2⟩ := at_T58 HR0.out x10_1 p232 q232
       cases e232
       replace hx232_0 := (HB.out.cell (World.block_lt_of_cell? w _ hx232_0)).trans hx232_0
       replace hx232_1 := (HB.out.cell (World.block_lt_of_cell? w _ hx232_1)).trans hx232_1
       replace hx232_2 := (HB.out.cell (World.block_lt_of_cell? w _ hx232_2)).trans hx232_2
       replace p232 := eq_true p232
       replace q232 := eq_true q232
       go_wp2_with (first | ((with_reducible refine gate_dst (N := 7) rfl ?_); refine box_event ?hg (N := 7) ?hd (cs := #[.int .i64 0, .int .i64 0, .int .i64 0]) (t := 58) ?hr ?_; (case hd => rfl); (case hg => rfl); (case hr => first | (go_simp; done) | (go_simp; rfl)); intro gb233 hg w7 hbox hb; have n0_ := Aside0.mk (below_step (bb_) hb); have n1_ := Aside0.mk (hbox); have n2_ := Aside0.mk ((by rw [hg]; exact (below_size (bb_)) : w.heap.size ≤ gb233)); have n3_ := Aside0.mk ((by rw [hg]; exact (below_size (bb_)) : w.heap.size ≤ gb233)); clear HB; have HB := n0_; have BK233 := n1_; have GW233 := n2_; have GE233 := n3_; clear n0_ n1_ n2_ n3_; clear hb hbox hg; have hcz8_0 : w7.cell? ⟨gb233, 0, none⟩ = some (.int .i64 0) := (blk_cell BK233.out 0).trans rfl; have hcz8_1 : w7.cell? ⟨gb233, 1, none⟩ = some (.int .i64 0) := (blk_cell BK233.out 1).trans rfl; have hcz8_2 : w7.cell? ⟨gb233, 2, none⟩ = some (.int .i64 0) := (blk_cell BK233.out 2).trans rfl; have hfz8_0 := blk_frozen BK233.out 0; have hfz8_1 := blk_frozen BK233.out 1; have hfz8_2 := blk_frozen BK233.out 2))
       go_roundg k1
       case measure => have := HK1.out; omega
       case rel => exact ⟨(wrap64 (x5_1 + ((rd_T58 l0 x10_1).f2))), (wrap64 (x10_1 + 1)), (by first | rfl | (simp; done) | (simp [*]; done)), (by first | rfl | (simp; done) | (simp [*]; done)), H', ⟨by have := HK1.out; omega⟩, ⟨by repeat (first | (with_reducible first | exact HB.out | apply below_alloc | apply pw_below_drewN | apply below_drew1 | refine below_set ?_ GE233.out) | exact HB.out)⟩⟩
      ·
       rw [if_neg c6] at H
       have c6b0 : (((rd_T58 l0 x10_1).f1) == a1) = false := beq_eq_false_iff_ne.mpr c6
       have c6b1 : (((rd_T58 l0 x10_1).f1) != a1) = true := bne_iff_ne.mpr c6
       have H' := Aside0.mk H
       clear H
       have p232 : 0 ≤ (x10_1 : Int) := of_decide_eq_true (by first | (with_reducible assumption) | assumption)
       have q232 : x10_1 < (l0.length : Int) := of_decide_eq_true (by first | (with_reducible assumption) | assumption)
       obtain ⟨ad232, e232, hx232_0, hx232_1, hx232_2⟩ := at_T58 HR0.out x10_1 p232 q232
       cases e232
       replace hx232_0 := (HB.out.cell (World.block_lt_of_cell? w _ hx232_0)).trans hx232_0
       replace hx232_1 := (HB.out.cell (World.block_lt_of_cell? w _ hx232_1)).trans hx232_1
       replace hx232_2 := (HB.out.cell (World.block_lt_of_cell? w _ hx232_2)).trans hx232_2
       replace p232 := eq_true p232
       replace q232 := eq_true q232
       go_wp2_with (first | ((with_reducible refine gate_dst (N := 7) rfl ?_); refine box_event ?hg (N := 7) ?hd (cs := #[.int .i64 0, .int .i64 0, .int .i64 0]) (t := 58) ?hr ?_; (case hd => rfl); (case hg => rfl); (case hr => first | (go_simp; done) | (go_simp; rfl)); intro gb233 hg w9 hbox hb; have n0_ := Aside0.mk (below_step (bb_) hb); have n1_ := Aside0.mk (hbox); have n2_ := Aside0.mk ((by rw [hg]; exact (below_size (bb_)) : w.heap.size ≤ gb233)); have n3_ := Aside0.mk ((by rw [hg]; exact (below_size (bb_)) : w.heap.size ≤ gb233)); clear HB; have HB := n0_; have BK233 := n1_; have GW233 := n2_; have GE233 := n3_; clear n0_ n1_ n2_ n3_; clear hb hbox hg; have hcz10_0 : w9.cell? ⟨gb233, 0, none⟩ = some (.int .i64 0) := (blk_cell BK233.out 0).trans rfl; have hcz10_1 : w9.cell? ⟨gb233, 1, none⟩ = some (.int .i64 0) := (blk_cell BK233.out 1).trans rfl; have hcz10_2 : w9.cell? ⟨gb233, 2, none⟩ = some (.int .i64 0) := (blk_cell BK233.out 2).trans rfl; have hfz10_0 := blk_frozen BK233.out 0; have hfz10_1 := blk_frozen BK233.out 1; have hfz10_2 := blk_frozen BK233.out 2))
       go_roundg k1
       case measure => have := HK1.out; omega
       case rel => exact ⟨(x5_1), (wrap64 (x10_1 + 1)), (by first | rfl | (simp; done) | (simp [*]; done)), (by first | rfl | (simp; done) | (simp [*]; done)), H', ⟨by have := HK1.out; omega⟩, ⟨by repeat (first | (with_reducible first | exact HB.out | apply below_alloc | apply pw_below_drewN | apply below_drew1 | refine below_set ?_ GE233.out) | exact HB.out)⟩⟩
     ·
      rw [if_neg c5] at H
      exact absurd H (by simp)
    ·
     rw [if_neg c4] at H
     exact absurd H (by simp)
   ·
    rw [if_neg c3] at H
    have c3b0 : decide (x10_1 < (l0.length : Int)) = false := decide_eq_false c3
    clear c3
    obtain rfl := Option.some.inj H
    go_wp2
    go_ret
    exact ⟨by first | rfl | (simp [errW_none, errW_some] <;> rfl) | (simp [*, errW_none, errW_some] <;> rfl), bb_⟩
def impl_BalsSum.f (k : Nat) (l0 : List (S58)) (a1 : Int) : Option (Int × Bool) := (impl_BalsOk.f k l0).bind fun t234 => (if t234 = true then ((impl_balsSum.f k l0 a1).bind fun t235 => ((impl_amount.f t235).bind fun bt236 => (some (bt236.1, bt236.2)))) else (some (0, false)))
set_option maxHeartbeats 8000000 in
set_option maxRecDepth 100000 in
theorem impl_BalsSum.calls (k : Nat) (A0 : Option Addr) (c0 : Nat) (l0 : List (S58)) (a1 : Int) (r1 : Int) (r2 : Bool) (w : World) (hr0 : Kd.C k58 w A0 l0.length l0) (hc0 : l0.length ≤ c0) (h : impl_BalsSum.f k l0 a1 = some (r1, r2)) :
 Calls Try.prog 25 #[.slice A0 l0.length c0, .int .i64 a1] w fun e w' => e = .returned (.tuple #[.int .i64 r1, .bool r2]) ∧ Below w.heap.size w w' := by
 have HR0 := Aside0.mk hr0
 have HC0 := Aside0.mk hc0
 clear hr0 hc0
 have HB := Aside0.mk (Below.refl w.heap.size w)
 have H : ((impl_BalsOk.f k l0).bind fun t234 => (if t234 = true then ((impl_balsSum.f k l0 a1).bind fun t235 => ((impl_amount.f t235).bind fun bt236 => (some (bt236.1, bt236.2)))) else (some (0, false)))) = some (r1, r2) := h
 clear h
 replace H := Option.bind_eq_some_iff.mp H
 obtain ⟨t234, A30, H⟩ := H
 replace H : (if t234 = true then ((impl_balsSum.f k l0 a1).bind fun t235 => ((impl_amount.f t235).bind fun bt236 => (some (bt236.1, bt236.2)))) else (some (0, false))) = some (r1, r2) := H
 have A3 := Aside0.mk A30
 clear A30
 by_cases c4 : t234 = true
 ·
  subst c4
  have H1 : ((impl_balsSum.f k l0 a1).bind fun t235 => ((impl_amount.f t235).bind fun bt236 => (some (bt236.1, bt236.2)))) = some (r1, r2) := by rw [if_pos rfl] at H; exact H
  clear H
  have H := H1
  clear H1
  replace H := Option.bind_eq_some_iff.mp H
  obtain ⟨t235, A50, H⟩ := H
  replace H : ((impl_amount.f t235).bind fun bt236 => (some (bt236.1, bt236.2))) = some (r1, r2) := H
  have A5 := Aside0.mk A50
  clear A50
  replace H := Option.bind_eq_some_iff.mp H
  obtain ⟨⟨t236, t237⟩, A60, H⟩ := H
  replace H : (some (t236, t237)) = some (r1, r2) := H
  have A6 := Aside0.mk A60
  clear A60
  simp only [Option.some.injEq, Prod.mk.injEq] at H
  obtain ⟨rfl, rfl⟩ := H
  go_enter Try.func25, Try.ntmps25
  go_wp2_with (first | ((with_reducible refine gate_callee (f := 15) rfl ?_); refine goesL_ (some 7) rfl rfl Try.func15 (by kernel_rfl) rfl #[.slice A0 l0.length c0] rfl (by (try simp only [List.map_toArray, List.map_cons, List.map_nil]); first | done | rfl | (simp only [List.length_drop, List.length_take]; rfl)) ?_; (with_reducible refine (impl_BalsOk.calls k _ _ l0 true _ ?side1 ?side2 A3.out).mono ?_); (case side1 => repeat (first | exact HR0.out | (with_reducible refine Kd.C_alloc ?_ _) | (with_reducible refine Kd.C_drewN ?_ _) | (with_reducible refine Kd.C_drew ?_))); (case side2 => exact HC0.out); rintro e w7 ⟨rfl, hb⟩; refine ⟨_, rfl, ?_⟩; have n0_ := Aside0.mk (below_step (bb_) hb); clear HB; have HB := n0_; clear n0_; (try clear hb); (try clear hb2); (try clear hk); (try clear hi)) | ((with_reducible refine gate_callee (f := 57) rfl ?_); refine goesL_ (some 11) rfl rfl Try.func57 (by kernel_rfl) rfl #[.slice A0 l0.length c0, .int .i64 a1] rfl (by (try simp only [List.map_toArray, List.map_cons, List.map_nil]); first | done | rfl | (simp only [List.length_drop, List.length_take]; rfl)) ?_; (with_reducible refine (impl_balsSum.calls k _ _ l0 a1 t235 _ ?side1 ?side2 A5.out).mono ?_); (case side1 => repeat (first | exact (Kd.C_below HR0.out HB.out) | (with_reducible refine Kd.C_alloc ?_ _) | (with_reducible refine Kd.C_drewN ?_ _) | (with_reducible refine Kd.C_drew ?_))); (case side2 => exact HC0.out); rintro e w8 ⟨rfl, hb⟩; refine ⟨_, rfl, ?_⟩; have n0_ := Aside0.mk (below_step (bb_) hb); clear HB; have HB := n0_; clear n0_; (try clear hb); (try clear hb2); (try clear hk); (try clear hi)) | ((with_reducible refine gate_callee (f := 56) rfl ?_); refine goesL_ (some 12) rfl rfl Try.func56 (by kernel_rfl) rfl #[.int .i64 t235] rfl (by (try simp only [List.map_toArray, List.map_cons, List.map_nil]); first | done | rfl | (simp only [List.length_drop, List.length_take]; rfl)) ?_; (with_reducible refine (impl_amount.calls t235 t236 t237 _ A6.out).mono ?_); rintro e w' ⟨rfl, ⟨nd, rfl⟩⟩; refine ⟨_, rfl, ?_⟩))
  go_ret2
  exact ⟨by first | rfl | (simp [errW_none, errW_some] <;> rfl) | (simp [*, errW_none, errW_some] <;> rfl), bb_⟩
 ·
  replace c4 := Bool.eq_false_iff.mpr c4
  subst c4
  have H1 : (some (0, false)) = some (r1, r2) := by rw [if_neg (show ¬ (false = true) by decide)] at H; exact H
  clear H
  have H := H1
  clear H1
  simp only [Option.some.injEq, Prod.mk.injEq] at H
  obtain ⟨rfl, rfl⟩ := H
  go_enter Try.func25, Try.ntmps25
  go_wp2_with (first | ((with_reducible refine gate_callee (f := 15) rfl ?_); refine goesL_ (some 7) rfl rfl Try.func15 (by kernel_rfl) rfl #[.slice A0 l0.length c0] rfl (by (try simp only [List.map_toArray, List.map_cons, List.map_nil]); first | done | rfl | (simp only [List.length_drop, List.length_take]; rfl)) ?_; (with_reducible refine (impl_BalsOk.calls k _ _ l0 false _ ?side1 ?side2 A3.out).mono ?_); (case side1 => repeat (first | exact HR0.out | (with_reducible refine Kd.C_alloc ?_ _) | (with_reducible refine Kd.C_drewN ?_ _) | (with_reducible refine Kd.C_drew ?_))); (case side2 => exact HC0.out); rintro e w9 ⟨rfl, hb⟩; refine ⟨_, rfl, ?_⟩; have n0_ := Aside0.mk (below_step (bb_) hb); clear HB; have HB := n0_; clear n0_; (try clear hb); (try clear hb2); (try clear hk); (try clear hi)))
  go_ret2
  exact ⟨by first | rfl | (simp [errW_none, errW_some] <;> rfl) | (simp [*, errW_none, errW_some] <;> rfl), bb_⟩
end Go.Proofs.Ytpcjpjjkaplebaa.P
namespace Go.Proofs.Ytpcjpjjkaplebaa.P
open Go.RowKit Go.Proofs.YtpcjpjjkaplebaaW.PrintWords Go.Proofs.YtpcjpjjkaplebaaW.PrintLast Go.Proofs.YtpcjpjjkaplebaaW.PrintMore
attribute [local go_sem] max2_int min2_int max_two min_two max_three min_three max_four min_four   -- for this text's walks alone
set_option linter.unusedVariables false
set_option linter.unusedSimpArgs false
mutual
def spec_l4Put.l0 : Nat → List (S58) → Int → Int → List (S58) → Bool → Int → Int → Int → Int → Option ((List (S58)))
 | 0, _, _, _, _, _, _, _, _, _ => none
 | k + 1, x0, x1, x2, x9, x10, x12, x257000, x257001, x257002 => if x12 < (x0.length : Int) then (if 0 ≤ x12 then (if x10 = true then (spec_l4Put.j1 k x0 x1 x2 x9 x10 x12 false x257000 x257001 x257002 ((rd_T58 x0 x12).f0) ((rd_T58 x0 x12).f1) ((rd_T58 x0 x12).f2)) else ((spec_l4Before.f ((rd_T58 x0 x12).f0) ((rd_T58 x0 x12).f1) x1 x2).bind fun t262 => (spec_l4Put.j1 k x0 x1 x2 x9 x10 x12 (!t262) x257000 x257001 x257002 ((rd_T58 x0 x12).f0) ((rd_T58 x0 x12).f1) ((rd_T58 x0 x12).f2)))) else (none)) else (if x10 = true then (some x9) else (if x9.length < 5864062014805 then (some (x9 ++ [(⟨x257000, x257001, x257002⟩ : S58)])) else (none)))
def spec_l4Put.j1 : Nat → List (S58) → Int → Int → List (S58) → Bool → Int → Bool → Int → Int → Int → Int → Int → Int → Option ((List (S58)))
 | 0, _, _, _, _, _, _, _, _, _, _, _, _, _ => none
 | k + 1, x0, x1, x2, x9, x10, x12, x42, x257000, x257001, x257002, x262000, x262001, x262002 => if x42 = true then (if x9.length < 5864062014805 then ((some (x9 ++ [(⟨x257000, x257001, x257002⟩ : S58)] : List (S58))).bind fun y263 => (if x262000 = x1 then (if x262001 = x2 then (spec_l4Put.l0 k x0 x1 x2 y263 true (wrap64 (x12 + 1)) x257000 x257001 x257002) else (if y263.length < 5864062014805 then (spec_l4Put.l0 k x0 x1 x2 (y263 ++ [(⟨x262000, x262001, x262002⟩ : S58)]) true (wrap64 (x12 + 1)) x257000 x257001 x257002) else (none))) else (if y263.length < 5864062014805 then (spec_l4Put.l0 k x0 x1 x2 (y263 ++ [(⟨x262000, x262001, x262002⟩ : S58)]) true (wrap64 (x12 + 1)) x257000 x257001 x257002) else (none)))) else (none)) else (if x262000 = x1 then (if x262001 = x2 then (spec_l4Put.l0 k x0 x1 x2 x9 x10 (wrap64 (x12 + 1)) x257000 x257001 x257002) else (if x9.length < 5864062014805 then (spec_l4Put.l0 k x0 x1 x2 (x9 ++ [(⟨x262000, x262001, x262002⟩ : S58)]) x10 (wrap64 (x12 + 1)) x257000 x257001 x257002) else (none))) else (if x9.length < 5864062014805 then (spec_l4Put.l0 k x0 x1 x2 (x9 ++ [(⟨x262000, x262001, x262002⟩ : S58)]) x10 (wrap64 (x12 + 1)) x257000 x257001 x257002) else (none)))
end
def spec_l4Put.f (k : Nat) (l0 : List (S58)) (a1 : Int) (a2 : Int) (a3 : Int) : Option ((List (S58))) := spec_l4Put.l0 k l0 a1 a2 (([] : List (S58))) (a3 == 0) 0 a1 a2 a3
set_option maxHeartbeats 8000000 in
set_option maxRecDepth 100000 in
theorem spec_l4Put.calls (k : Nat) (A0 : Option Addr) (c0 : Nat) (l0 : List (S58)) (a1 : Int) (a2 : Int) (a3 : Int) (r : List (S58)) (w : World) (hr0 : Kd.C k58 w A0 l0.length l0) (hc0 : l0.length ≤ c0) (h : spec_l4Put.f k l0 a1 a2 a3 = some r) :
 Calls Try.prog 58 #[.slice A0 l0.length c0, .int .i64 a1, .int .i64 a2, .int .i64 a3] w fun e w' => ∃ v0_ : Value, e = .returned (v0_) ∧ Kd.R k58 58 w' w.heap.size (fun _ => True) v0_ r ∧ Below w.heap.size w w' := by
 have hu58 := Try.underlying58
 have HR0 := Aside0.mk hr0
 have HC0 := Aside0.mk hc0
 clear hr0 hc0
 have HB := Aside0.mk (Below.refl w.heap.size w)
 have H : (spec_l4Put.l0 k l0 a1 a2 (([] : List (S58))) (a3 == 0) 0 a1 a2 a3) = some r := h
 clear h
 obtain ⟨y253, hy253⟩ : ∃ y_ : List (S58), y_ = (([] : List (S58))) := ⟨_, rfl⟩
 replace H : (spec_l4Put.l0 k l0 a1 a2 y253 (a3 == 0) 0 a1 a2 a3) = some r := by first | (rw [hy253]; with_reducible exact H) | (have H2_ := (Option.bind_some _ _).symm.trans H; rw [hy253]; with_reducible exact H2_) | (have H2_ := (Option.bind_some _ _).symm.trans H; with_reducible exact H2_) | with_reducible exact H | (rw [hy253]; exact H) | exact H
 have Ny253 := Aside0.mk hy253
 clear hy253
 have H' := Aside0.mk H
 clear H
 go_enter Try.func58, Try.ntmps58
 go_wp2_with (first | ((with_reducible refine gate_dst (N := 14) rfl ?_); refine Kd.R_lit k58 _ 58 ?hg (N := 14) ?hd (xs := ([] : List (S58))) (inner := []) (ok := fun _ => True) (okp := fun _ => True) ?hr ?hp (fun _ hk => hk) trivial (Below.refl _ _) (Nat.le_refl _) (by simp) ?_; (case hd => rfl); (case hg => rfl); (case hr => first | (go_simp; done) | (go_simp; rfl)); (case hp => exact (Reps.none _ _)); intro v254 w5 ho6 hb hg_ hnew_; clear hg_ hnew_; (first | rw [← Ny253.out] at ho6 | (simp only [Int.reduceToNat] at ho6; rw [← Ny253.out] at ho6)); have n0_ := Aside0.mk (Kd.R_lower ho6 (below_size (bb_))); have n1_ := Aside0.mk (below_step (bb_) hb); clear HB; have HO255 := n0_; have HB := n1_; clear n0_ n1_; clear hb ho6) | ((with_reducible refine gate_dst (N := 11) rfl ?_); refine box_event ?hg (N := 11) ?hd (cs := #[.int .i64 0, .int .i64 0, .int .i64 0]) (t := 58) ?hr ?_; (case hd => rfl); (case hg => rfl); (case hr => first | (go_simp; done) | (go_simp; rfl)); intro gb256 hg w7 hbox hb; have n0_ := Aside0.mk (Kd.R_below (Kd.R_elderB (by (with_reducible repeat (first | apply Kd.R_alloc | apply Kd.R_drewN | apply Kd.R_drew)); exact HO255.out) gb256 (Nat.le_of_eq hg.symm)) hb); have n1_ := Aside0.mk (below_step (bb_) hb); have n2_ := Aside0.mk (hbox); have n3_ := Aside0.mk ((by rw [hg]; exact (below_size (bb_)) : w.heap.size ≤ gb256)); have n4_ := Aside0.mk ((by rw [hg]; exact (below_size (bb_)) : w.heap.size ≤ gb256)); clear HO255; clear HB; have HO255 := n0_; have HB := n1_; have BK256 := n2_; have GW256 := n3_; have GE256 := n4_; clear n0_ n1_ n2_ n3_ n4_; clear hb hbox hg; have hcz8_0 : w7.cell? ⟨gb256, 0, none⟩ = some (.int .i64 0) := (blk_cell BK256.out 0).trans rfl; have hcz8_1 : w7.cell? ⟨gb256, 1, none⟩ = some (.int .i64 0) := (blk_cell BK256.out 1).trans rfl; have hcz8_2 : w7.cell? ⟨gb256, 2, none⟩ = some (.int .i64 0) := (blk_cell BK256.out 2).trans rfl; have hfz8_0 := blk_frozen BK256.out 0; have hfz8_1 := blk_frozen BK256.out 1; have hfz8_2 := blk_frozen BK256.out 2))
 go_loopg [9, 10, 12] k (fun kq v9 v10 v12 w' => ∃ (x9_1 : List (S58)) (x10_1 : Bool) (x12_1 : Int), v10 = .bool x10_1 ∧ v12 = .int .i64 x12_1 ∧ Aside0 (spec_l4Put.l0 kq l0 a1 a2 x9_1 x10_1 x12_1 a1 a2 a3 = some r) ∧ Aside0 (kq ≤ k) ∧ Aside0 (Kd.R k58 58 w' w.heap.size (fun k_ => k_ ≠ gb256) v9 x9_1) ∧ Aside0 (w'.heap[gb256]? = some (.cells #[.int .i64 a1, .int .i64 a2, .int .i64 a3] 58 (0, 0))) ∧ Aside0 (Below w.heap.size w w'))
 case atStart => exact ⟨(y253), ((a3 == 0)), (0), (by first | rfl | (simp; done) | (simp [*]; done)), (by first | rfl | (simp; done) | (simp [*]; done)), H', ⟨Nat.le_refl _⟩, ⟨by (with_reducible repeat (first | apply Kd.R_alloc | apply Kd.R_drewN | apply Kd.R_drew)); exact Kd.R_mono (Kd.R_far (p := ⟨gb256, 2, none⟩) (Kd.R_far (p := ⟨gb256, 1, none⟩) (Kd.R_far (p := ⟨gb256, 0, none⟩) (Kd.R_mono HO255.out (fun k_ hk => (⟨hk, hk.2⟩ : _ ∧ k_ ≠ gb256))) (fun _ hk => hk.2) (.int .i64 a1)) (fun _ hk => hk.2) (.int .i64 a2)) (fun _ hk => hk.2) (.int .i64 a3)) (fun _ hk => hk.1.2)⟩, ⟨by (with_reducible repeat (first | refine blk_drewN ?_ _ | refine blk_drew ?_ | refine blk_alloc ?_ _)); refine blk_put (cs := #[.int .i64 a1, .int .i64 a2, .int .i64 0]) ?_ 2 _ rfl; (with_reducible repeat (first | refine blk_drewN ?_ _ | refine blk_drew ?_ | refine blk_alloc ?_ _)); refine blk_put (cs := #[.int .i64 a1, .int .i64 0, .int .i64 0]) ?_ 1 _ rfl; (with_reducible repeat (first | refine blk_drewN ?_ _ | refine blk_drew ?_ | refine blk_alloc ?_ _)); refine blk_put (cs := #[.int .i64 0, .int .i64 0, .int .i64 0]) ?_ 0 _ rfl; (with_reducible repeat (first | refine blk_drewN ?_ _ | refine blk_drew ?_ | refine blk_alloc ?_ _)); exact BK256.out⟩, ⟨by repeat (first | (with_reducible first | exact HB.out | apply below_alloc | apply pw_below_drewN | apply below_drew1 | refine below_set ?_ GE256.out) | exact HB.out)⟩⟩
 case round =>
  clear H'
  try clear p2
  try clear c5
  try clear hcz8_0
  try clear hcz8_1
  try clear hcz8_2
  try clear hfz8_0
  try clear hfz8_1
  try clear hfz8_2
  obtain ⟨x9_1, x10_1, x12_1, rfl, rfl, HA, HK1, HO_9, BK256, HB⟩ := hrel
  cases gk with
  | zero => exact absurd HA.out (by simp [spec_l4Put.l0])
  | succ k1 =>
   have H := HA.out
   clear HA
   simp only [spec_l4Put.l0] at H
   by_cases c9 : x12_1 < (l0.length : Int)
   ·
    rw [if_pos c9] at H
    have c9b0 : decide (x12_1 < (l0.length : Int)) = true := decide_eq_true c9
    clear c9
    by_cases c10 : 0 ≤ x12_1
    ·
     rw [if_pos c10] at H
     have c10b0 : decide (0 ≤ x12_1) = true := decide_eq_true c10
     clear c10
     have HC11 := Aside0.mk H
     clear H
     have p260 : 0 ≤ (x12_1 : Int) := of_decide_eq_true (by first | (with_reducible assumption) | assumption)
     have q260 : x12_1 < (l0.length : Int) := of_decide_eq_true (by first | (with_reducible assumption) | assumption)
     obtain ⟨ad260, e260, hx260_0, hx260_1, hx260_2⟩ := at_T58 HR0.out x12_1 p260 q260
     cases e260
     replace hx260_0 := (HB.out.cell (World.block_lt_of_cell? w _ hx260_0)).trans hx260_0
     replace hx260_1 := (HB.out.cell (World.block_lt_of_cell? w _ hx260_1)).trans hx260_1
     replace hx260_2 := (HB.out.cell (World.block_lt_of_cell? w _ hx260_2)).trans hx260_2
     replace p260 := eq_true p260
     replace q260 := eq_true q260
     go_upto_region 8 with (first | ((with_reducible refine gate_dst (N := 13) rfl ?_); refine box_event ?hg (N := 13) ?hd (cs := #[.int .i64 0, .int .i64 0, .int .i64 0]) (t := 58) ?hr ?_; (case hd => rfl); (case hg => rfl); (case hr => first | (go_simp; done) | (go_simp; rfl)); intro gb261 hg w12 hbox hb; have n0_ := Aside0.mk (Kd.R_below (Kd.R_elderB (by (with_reducible repeat (first | apply Kd.R_alloc | apply Kd.R_drewN | apply Kd.R_drew)); exact HO_9.out) gb261 (Nat.le_of_eq hg.symm)) hb); have n1_ := Aside0.mk (blk_below (g := gb256) (o := .cells #[.int .i64 a1, .int .i64 a2, .int .i64 a3] 58 (0, 0)) (by (with_reducible repeat (first | refine blk_drewN ?_ _ | refine blk_drew ?_ | refine blk_alloc ?_ _)); exact BK256.out) hb); have n2_ := Aside0.mk (below_step (by repeat (first | (with_reducible first | exact HB.out | apply below_alloc | apply pw_below_drewN | apply below_drew1 | refine below_set ?_ GE256.out) | exact HB.out)) hb); have n3_ := Aside0.mk (hbox); have n4_ := Aside0.mk ((by rw [hg]; exact (below_size (by repeat (first | (with_reducible first | exact HB.out | apply below_alloc | apply pw_below_drewN | apply below_drew1 | refine below_set ?_ GE256.out) | exact HB.out))) : w.heap.size ≤ gb261)); have n5_ := Aside0.mk ((by rw [hg]; exact (below_size (by repeat (first | (with_reducible first | exact HB.out | apply below_alloc | apply pw_below_drewN | apply below_drew1 | refine below_set ?_ GE256.out) | exact HB.out))) : w.heap.size ≤ gb261)); have n6_ := Aside0.mk ((by rw [hg]; exact Nat.ne_of_lt (blk_lt (g := gb256) (o := .cells #[.int .i64 a1, .int .i64 a2, .int .i64 a3] 58 (0, 0)) (by (with_reducible repeat (first | refine blk_drewN ?_ _ | refine blk_drew ?_ | refine blk_alloc ?_ _)); exact BK256.out)) : gb256 ≠ gb261)); have n7_ := Aside0.mk ((by rw [hg]; exact Nat.ne_of_gt (blk_lt (g := gb256) (o := .cells #[.int .i64 a1, .int .i64 a2, .int .i64 a3] 58 (0, 0)) (by (with_reducible repeat (first | refine blk_drewN ?_ _ | refine blk_drew ?_ | refine blk_alloc ?_ _)); exact BK256.out)) : gb261 ≠ gb256)); clear HO_9; clear BK256; clear HB; have HO_9 := n0_; have BK256 := n1_; have HB := n2_; have BK261 := n3_; have GW261 := n4_; have GE261 := n5_; have NB256_261 := n6_; have NB261_256 := n7_; clear n0_ n1_ n2_ n3_ n4_ n5_ n6_ n7_; clear hb hbox hg; have hnb13 := NB261_256.out; have hnc13 := NB256_261.out; have hcz14_0 : w12.cell? ⟨gb261, 0, none⟩ = some (.int .i64 0) := (blk_cell BK261.out 0).trans rfl; have hcz14_1 : w12.cell? ⟨gb261, 1, none⟩ = some (.int .i64 0) := (blk_cell BK261.out 1).trans rfl; have hcz14_2 : w12.cell? ⟨gb261, 2, none⟩ = some (.int .i64 0) := (blk_cell BK261.out 2).trans rfl; have hfz14_0 := blk_frozen BK261.out 0; have hfz14_1 := blk_frozen BK261.out 1; have hfz14_2 := blk_frozen BK261.out 2))
     (try simp only [Act.put, List.setIfInBounds_toArray, List.set_cons_zero, List.set_cons_succ])
     go_cut [42] (fun v42 wc => ∃ (kq : Nat) (x42_10 : Bool), v42 = .bool x42_10 ∧ Aside0 (spec_l4Put.j1 kq l0 a1 a2 x9_1 x10_1 x12_1 x42_10 a1 a2 a3 ((rd_T58 l0 x12_1).f0) ((rd_T58 l0 x12_1).f1) ((rd_T58 l0 x12_1).f2) = some r) ∧ Aside0 (kq ≤ k1) ∧ Aside0 (Kd.R k58 58 wc w.heap.size (fun k_ => k_ ≠ gb256 ∧ k_ ≠ gb261) u9 x9_1) ∧ Aside0 (wc.heap[gb256]? = some (.cells #[.int .i64 a1, .int .i64 a2, .int .i64 a3] 58 (0, 0))) ∧ Aside0 (wc.heap[gb261]? = some (.cells #[.int .i64 ((rd_T58 l0 x12_1).f0), .int .i64 ((rd_T58 l0 x12_1).f1), .int .i64 ((rd_T58 l0 x12_1).f2)] 58 (0, 0))) ∧ Aside0 (Below w.heap.size w wc))
     case first =>
      have H := HC11.out
      clear HC11
      by_cases c15 : x10_1 = true
      ·
       subst c15
       have H1 : (spec_l4Put.j1 k1 l0 a1 a2 x9_1 true x12_1 false a1 a2 a3 ((rd_T58 l0 x12_1).f0) ((rd_T58 l0 x12_1).f1) ((rd_T58 l0 x12_1).f2)) = some r := by rw [if_pos rfl] at H; exact H
       clear H
       have H := H1
       clear H1
       have H' := Aside0.mk H
       clear H
       go_wp2
       go_meet
       case rel => exact ⟨_, (false), (by first | rfl | (simp; done) | (simp [*]; done)), H', ⟨by have := HK1.out; first | omega | exact Nat.le_refl _⟩, ⟨by (with_reducible repeat (first | apply Kd.R_alloc | apply Kd.R_drewN | apply Kd.R_drew)); exact Kd.R_mono (Kd.R_far (p := ⟨gb261, 2, none⟩) (Kd.R_far (p := ⟨gb261, 1, none⟩) (Kd.R_far (p := ⟨gb261, 0, none⟩) (Kd.R_mono HO_9.out (fun k_ hk => (⟨hk, hk.2⟩ : _ ∧ k_ ≠ gb261))) (fun _ hk => hk.2) (.int .i64 ((rd_T58 l0 x12_1).f0))) (fun _ hk => hk.2) (.int .i64 ((rd_T58 l0 x12_1).f1))) (fun _ hk => hk.2) (.int .i64 ((rd_T58 l0 x12_1).f2))) (fun _ hk => ⟨hk.1.1, hk.1.2⟩)⟩, ⟨by (with_reducible repeat (first | refine blk_drewN ?_ _ | refine blk_drew ?_ | refine blk_alloc ?_ _)); refine blk_far ?_ NB256_261.out _; (with_reducible repeat (first | refine blk_drewN ?_ _ | refine blk_drew ?_ | refine blk_alloc ?_ _)); refine blk_far ?_ NB256_261.out _; (with_reducible repeat (first | refine blk_drewN ?_ _ | refine blk_drew ?_ | refine blk_alloc ?_ _)); refine blk_far ?_ NB256_261.out _; (with_reducible repeat (first | refine blk_drewN ?_ _ | refine blk_drew ?_ | refine blk_alloc ?_ _)); exact BK256.out⟩, ⟨by (with_reducible repeat (first | refine blk_drewN ?_ _ | refine blk_drew ?_ | refine blk_alloc ?_ _)); refine blk_put (cs := #[.int .i64 ((rd_T58 l0 x12_1).f0), .int .i64 ((rd_T58 l0 x12_1).f1), .int .i64 0]) ?_ 2 _ rfl; (with_reducible repeat (first | refine blk_drewN ?_ _ | refine blk_drew ?_ | refine blk_alloc ?_ _)); refine blk_put (cs := #[.int .i64 ((rd_T58 l0 x12_1).f0), .int .i64 0, .int .i64 0]) ?_ 1 _ rfl; (with_reducible repeat (first | refine blk_drewN ?_ _ | refine blk_drew ?_ | refine blk_alloc ?_ _)); refine blk_put (cs := #[.int .i64 0, .int .i64 0, .int .i64 0]) ?_ 0 _ rfl; (with_reducible repeat (first | refine blk_drewN ?_ _ | refine blk_drew ?_ | refine blk_alloc ?_ _)); exact BK261.out⟩, ⟨by repeat (first | (with_reducible first | exact HB.out | apply below_alloc | apply pw_below_drewN | apply below_drew1 | refine below_set ?_ GE256.out | refine below_set ?_ GE261.out) | exact HB.out)⟩⟩
      ·
       replace c15 := Bool.eq_false_iff.mpr c15
       subst c15
       have H1 : ((spec_l4Before.f ((rd_T58 l0 x12_1).f0) ((rd_T58 l0 x12_1).f1) a1 a2).bind fun t262 => (spec_l4Put.j1 k1 l0 a1 a2 x9_1 false x12_1 (!t262) a1 a2 a3 ((rd_T58 l0 x12_1).f0) ((rd_T58 l0 x12_1).f1) ((rd_T58 l0 x12_1).f2))) = some r := by rw [if_neg (show ¬ (false = true) by decide)] at H; exact H
       clear H
       have H := H1
       clear H1
       replace H := Option.bind_eq_some_iff.mp H
       obtain ⟨t262, A160, H⟩ := H
       replace H : (spec_l4Put.j1 k1 l0 a1 a2 x9_1 false x12_1 (!t262) a1 a2 a3 ((rd_T58 l0 x12_1).f0) ((rd_T58 l0 x12_1).f1) ((rd_T58 l0 x12_1).f2)) = some r := H
       have A16 := Aside0.mk A160
       clear A160
       have H' := Aside0.mk H
       clear H
       have hnb17 := NB261_256.out
       have hnc17 := NB256_261.out
       have hcz18_0 : w12.cell? ⟨gb261, 0, none⟩ = some (.int .i64 0) := (blk_cell BK261.out 0).trans rfl
       have hcz18_1 : w12.cell? ⟨gb261, 1, none⟩ = some (.int .i64 0) := (blk_cell BK261.out 1).trans rfl
       have hcz18_2 : w12.cell? ⟨gb261, 2, none⟩ = some (.int .i64 0) := (blk_cell BK261.out 2).trans rfl
       have hfz18_0 := blk_frozen BK261.out 0
       have hfz18_1 := blk_frozen BK261.out 1
       have hfz18_2 := blk_frozen BK261.out 2
       go_wp2_with (first | (go_at_call 43; (with_reducible refine (spec_l4Before.calls ((rd_T58 l0 x12_1).f0) ((rd_T58 l0 x12_1).f1) a1 a2 t262 _ A16.out).mono ?_); rintro e w' ⟨rfl, ⟨nd, rfl⟩⟩))
       go_meet
       case rel => exact ⟨_, (!t262), (by first | rfl | (simp; done) | (simp [*]; done)), H', ⟨by have := HK1.out; first | omega | exact Nat.le_refl _⟩, ⟨by (with_reducible repeat (first | apply Kd.R_alloc | apply Kd.R_drewN | apply Kd.R_drew)); exact Kd.R_mono (Kd.R_far (p := ⟨gb261, 2, none⟩) (Kd.R_far (p := ⟨gb261, 1, none⟩) (Kd.R_far (p := ⟨gb261, 0, none⟩) (Kd.R_mono HO_9.out (fun k_ hk => (⟨hk, hk.2⟩ : _ ∧ k_ ≠ gb261))) (fun _ hk => hk.2) (.int .i64 ((rd_T58 l0 x12_1).f0))) (fun _ hk => hk.2) (.int .i64 ((rd_T58 l0 x12_1).f1))) (fun _ hk => hk.2) (.int .i64 ((rd_T58 l0 x12_1).f2))) (fun _ hk => ⟨hk.1.1, hk.1.2⟩)⟩, ⟨by (with_reducible repeat (first | refine blk_drewN ?_ _ | refine blk_drew ?_ | refine blk_alloc ?_ _)); refine blk_far ?_ NB256_261.out _; (with_reducible repeat (first | refine blk_drewN ?_ _ | refine blk_drew ?_ | refine blk_alloc ?_ _)); refine blk_far ?_ NB256_261.out _; (with_reducible repeat (first | refine blk_drewN ?_ _ | refine blk_drew ?_ | refine blk_alloc ?_ _)); refine blk_far ?_ NB256_261.out _; (with_reducible repeat (first | refine blk_drewN ?_ _ | refine blk_drew ?_ | refine blk_alloc ?_ _)); exact BK256.out⟩, ⟨by (with_reducible repeat (first | refine blk_drewN ?_ _ | refine blk_drew ?_ | refine blk_alloc ?_ _)); refine blk_put (cs := #[.int .i64 ((rd_T58 l0 x12_1).f0), .int .i64 ((rd_T58 l0 x12_1).f1), .int .i64 0]) ?_ 2 _ rfl; (with_reducible repeat (first | refine blk_drewN ?_ _ | refine blk_drew ?_ | refine blk_alloc ?_ _)); refine blk_put (cs := #[.int .i64 ((rd_T58 l0 x12_1).f0), .int .i64 0, .int .i64 0]) ?_ 1 _ rfl; (with_reducible repeat (first | refine blk_drewN ?_ _ | refine blk_drew ?_ | refine blk_alloc ?_ _)); refine blk_put (cs := #[.int .i64 0, .int .i64 0, .int .i64 0]) ?_ 0 _ rfl; (with_reducible repeat (first | refine blk_drewN ?_ _ | refine blk_drew ?_ | refine blk_alloc ?_ _)); exact BK261.out⟩, ⟨by repeat (first | (with_reducible first | exact HB.out | apply below_alloc | apply pw_below_drewN | apply below_drew1 | refine below_set ?_ GE256.out | refine below_set ?_ GE261.out) | exact HB.out)⟩⟩
     case rest =>
      clear HC11
      try clear c1
      try clear p2
      try clear q2
      try clear hx2
      try clear c5
      try clear c9
      try clear c9b0
      try clear c10
      try clear c10b0
      try clear c13
      try clear c15
      try clear c17
      try clear hcz14_0
      try clear hcz14_1
      try clear hcz14_2
      try clear hcz18_0
      try clear hcz18_1
      try clear hcz18_2
      try clear hcz8_0
      try clear hcz8_1
      try clear hcz8_2
      try clear hfz14_0
      try clear hfz14_1
      try clear hfz14_2
      try clear hfz18_0
      try clear hfz18_1
      try clear hfz18_2
      try clear hfz8_0
      try clear hfz8_1
      try clear hfz8_2
      try clear hx260_0
      try clear hx260_1
      try clear hx260_2
      try clear p2
      try clear p260
      try clear q260
      obtain ⟨kq, x42_10, rfl, HA, HJ10, HO_9, BK256, BK261, HB⟩ := hcut
      cases kq with
      | zero => exact absurd HA.out (by simp [spec_l4Put.j1])
      | succ kj10 =>
       have H := HA.out
       clear HA
       simp only [spec_l4Put.j1] at H
       by_cases c19 : x42_10 = true
       ·
        subst c19
        have H1 : (if x9_1.length < 5864062014805 then ((some (x9_1 ++ [(⟨a1, a2, a3⟩ : S58)] : List (S58))).bind fun y263 => (if ((rd_T58 l0 x12_1).f0) = a1 then (if ((rd_T58 l0 x12_1).f1) = a2 then (spec_l4Put.l0 kj10 l0 a1 a2 y263 true (wrap64 (x12_1 + 1)) a1 a2 a3) else (if y263.length < 5864062014805 then (spec_l4Put.l0 kj10 l0 a1 a2 (y263 ++ [(⟨((rd_T58 l0 x12_1).f0), ((rd_T58 l0 x12_1).f1), ((rd_T58 l0 x12_1).f2)⟩ : S58)]) true (wrap64 (x12_1 + 1)) a1 a2 a3) else (none))) else (if y263.length < 5864062014805 then (spec_l4Put.l0 kj10 l0 a1 a2 (y263 ++ [(⟨((rd_T58 l0 x12_1).f0), ((rd_T58 l0 x12_1).f1), ((rd_T58 l0 x12_1).f2)⟩ : S58)]) true (wrap64 (x12_1 + 1)) a1 a2 a3) else (none)))) else (none)) = some r := by rw [if_pos rfl] at H; exact H
        clear H
        have H := H1
        clear H1
        by_cases c20 : x9_1.length < 5864062014805
        ·
         rw [if_pos c20] at H
         have LMc20 := Aside0.mk c20
         clear c20
         obtain ⟨y263, hy263⟩ : ∃ y_ : List (S58), y_ = (x9_1 ++ [(⟨a1, a2, a3⟩ : S58)]) := ⟨_, rfl⟩
         replace H : (if ((rd_T58 l0 x12_1).f0) = a1 then (if ((rd_T58 l0 x12_1).f1) = a2 then (spec_l4Put.l0 kj10 l0 a1 a2 y263 true (wrap64 (x12_1 + 1)) a1 a2 a3) else (if y263.length < 5864062014805 then (spec_l4Put.l0 kj10 l0 a1 a2 (y263 ++ [(⟨((rd_T58 l0 x12_1).f0), ((rd_T58 l0 x12_1).f1), ((rd_T58 l0 x12_1).f2)⟩ : S58)]) true (wrap64 (x12_1 + 1)) a1 a2 a3) else (none))) else (if y263.length < 5864062014805 then (spec_l4Put.l0 kj10 l0 a1 a2 (y263 ++ [(⟨((rd_T58 l0 x12_1).f0), ((rd_T58 l0 x12_1).f1), ((rd_T58 l0 x12_1).f2)⟩ : S58)]) true (wrap64 (x12_1 + 1)) a1 a2 a3) else (none))) = some r := by first | (rw [hy263]; with_reducible exact H) | (have H2_ := (Option.bind_some _ _).symm.trans H; rw [hy263]; with_reducible exact H2_) | (have H2_ := (Option.bind_some _ _).symm.trans H; with_reducible exact H2_) | with_reducible exact H | (rw [hy263]; exact H) | exact H
         have Ny263 := Aside0.mk hy263
         clear hy263
         by_cases c21 : ((rd_T58 l0 x12_1).f0) = a1
         ·
          rw [if_pos c21] at H
          have c21b0 : (((rd_T58 l0 x12_1).f0) == a1) = true := beq_iff_eq.mpr c21
          have c21b1 : (((rd_T58 l0 x12_1).f0) != a1) = false := bne_eq_false_iff_eq.mpr c21
          clear c21
          by_cases c22 : ((rd_T58 l0 x12_1).f1) = a2
          ·
           rw [if_pos c22] at H
           have c22b0 : (((rd_T58 l0 x12_1).f1) == a2) = true := beq_iff_eq.mpr c22
           have c22b1 : (((rd_T58 l0 x12_1).f1) != a2) = false := bne_eq_false_iff_eq.mpr c22
           clear c22
           have H' := Aside0.mk H
           clear H
           have hnb23 := NB256_261.out
           have hnc23 := NB261_256.out
           have hcz24_0 : wc.cell? ⟨gb256, 0, none⟩ = some (.int .i64 a1) := (blk_cell BK256.out 0).trans rfl
           have hcz24_1 : wc.cell? ⟨gb256, 1, none⟩ = some (.int .i64 a2) := (blk_cell BK256.out 1).trans rfl
           have hcz24_2 : wc.cell? ⟨gb256, 2, none⟩ = some (.int .i64 a3) := (blk_cell BK256.out 2).trans rfl
           have hfz24_0 := blk_frozen BK256.out 0
           have hfz24_1 := blk_frozen BK256.out 1
           have hfz24_2 := blk_frozen BK256.out 2
           go_wp2_with (first | ((with_reducible refine gate_builtin (b := .append) (xs := #[.tmp 43, .tmp 45]) rfl ?_); at_builtin; refine Kd.R_append k58 (w0 := w) w.heap.size rfl (.tmp 43) (.tmp 45) 25 58 (.agg #[(.int .i64 0), (.int .i64 0), (.int .i64 0)]) 24 rfl Try.underlying25 info58 rfl (by decide) (by omega) u9 x9_1 (⟨a1, a2, a3⟩ : S58) [.int .i64 a1, .int .i64 a2, .int .i64 a3] (fun k_ => k_ ≠ gb256 ∧ k_ ≠ gb261) (fun _ => False) rfl rfl ?aP (fun _ hk => hk.elim) ?aF ?aO ?aB ?aS ?aL ?_; (case aP => exact k58_mkM _ _ _ (⟨a1, a2, a3⟩ : S58)); (case aB => exact (by repeat (first | (with_reducible first | exact HB.out | apply below_alloc | apply pw_below_drewN | apply below_drew1 | refine below_set ?_ GE256.out | refine below_set ?_ GE261.out) | exact HB.out))); (case aF => exact (fun k_ hk => ⟨Kd.freshB (g := gb256) (o := .cells #[.int .i64 a1, .int .i64 a2, .int .i64 a3] 58 (0, 0)) (by (with_reducible repeat (first | refine blk_drewN ?_ _ | refine blk_drew ?_ | refine blk_alloc ?_ _)); exact BK256.out) k_ hk, Kd.freshB (g := gb261) (o := .cells #[.int .i64 ((rd_T58 l0 x12_1).f0), .int .i64 ((rd_T58 l0 x12_1).f1), .int .i64 ((rd_T58 l0 x12_1).f2)] 58 (0, 0)) (by (with_reducible repeat (first | refine blk_drewN ?_ _ | refine blk_drew ?_ | refine blk_alloc ?_ _)); exact BK261.out) k_ hk⟩)); (case aO => exact (by (with_reducible repeat (first | apply Kd.R_alloc | apply Kd.R_drewN | apply Kd.R_drew)); exact HO_9.out)); (case aS => exact (below_size (by repeat (first | (with_reducible first | exact HB.out | apply below_alloc | apply pw_below_drewN | apply below_drew1 | refine below_set ?_ GE256.out | refine below_set ?_ GE261.out) | exact HB.out)))); (case aL => have := LMc20.out; omega); intro v264 w25 ho hb hg hat; rw [← Ny263.out] at ho; have n0_ := Aside0.mk (blk_grown (g := gb256) (o := .cells #[.int .i64 a1, .int .i64 a2, .int .i64 a3] 58 (0, 0)) (by (with_reducible repeat (first | refine blk_drewN ?_ _ | refine blk_drew ?_ | refine blk_alloc ?_ _)); exact BK256.out) hg (Kd.R_away HO_9.out (fun _ hk => hk.1))); have n1_ := Aside0.mk (blk_grown (g := gb261) (o := .cells #[.int .i64 ((rd_T58 l0 x12_1).f0), .int .i64 ((rd_T58 l0 x12_1).f1), .int .i64 ((rd_T58 l0 x12_1).f2)] 58 (0, 0)) (by (with_reducible repeat (first | refine blk_drewN ?_ _ | refine blk_drew ?_ | refine blk_alloc ?_ _)); exact BK261.out) hg (Kd.R_away HO_9.out (fun _ hk => hk.2))); have n2_ := Aside0.mk (hb); have n3_ := Aside0.mk (ho); clear BK256; clear BK261; clear HB; clear HO_9; have BK256 := n0_; have BK261 := n1_; have HB := n2_; have HO265 := n3_; clear n0_ n1_ n2_ n3_; clear ho hb hg hat; have hcz26_0 : w25.cell? ⟨gb261, 0, none⟩ = some (.int .i64 ((rd_T58 l0 x12_1).f0)) := (blk_cell BK261.out 0).trans rfl; have hcz26_1 : w25.cell? ⟨gb261, 1, none⟩ = some (.int .i64 ((rd_T58 l0 x12_1).f1)) := (blk_cell BK261.out 1).trans rfl; have hcz26_2 : w25.cell? ⟨gb261, 2, none⟩ = some (.int .i64 ((rd_T58 l0 x12_1).f2)) := (blk_cell BK261.out 2).trans rfl; have hfz26_0 := blk_frozen BK261.out 0; have hfz26_1 := blk_frozen BK261.out 1; have hfz26_2 := blk_frozen BK261.out 2))
           go_roundg kj10
           case measure => have := HK1.out; have := HJ10.out; omega
           case rel => exact ⟨(y263), (true), (wrap64 (x12_1 + 1)), (by first | rfl | (simp; done) | (simp [*]; done)), (by first | rfl | (simp; done) | (simp [*]; done)), H', ⟨by have := HK1.out; have := HJ10.out; omega⟩, ⟨by (with_reducible repeat (first | apply Kd.R_alloc | apply Kd.R_drewN | apply Kd.R_drew)); exact Kd.R_mono HO265.out (fun _ hk => hk.1)⟩, ⟨by (with_reducible repeat (first | refine blk_drewN ?_ _ | refine blk_drew ?_ | refine blk_alloc ?_ _)); exact BK256.out⟩, ⟨by repeat (first | (with_reducible first | exact HB.out | apply below_alloc | apply pw_below_drewN | apply below_drew1 | refine below_set ?_ GE256.out | refine below_set ?_ GE261.out) | exact HB.out)⟩⟩
          ·
           rw [if_neg c22] at H
           have c22b0 : (((rd_T58 l0 x12_1).f1) == a2) = false := beq_eq_false_iff_ne.mpr c22
           have c22b1 : (((rd_T58 l0 x12_1).f1) != a2) = true := bne_iff_ne.mpr c22
           by_cases c27 : y263.length < 5864062014805
           ·
            rw [if_pos c27] at H
            have LMc27 := Aside0.mk c27
            clear c27
            obtain ⟨y266, hy266⟩ : ∃ y_ : List (S58), y_ = (y263 ++ [(⟨((rd_T58 l0 x12_1).f0), ((rd_T58 l0 x12_1).f1), ((rd_T58 l0 x12_1).f2)⟩ : S58)]) := ⟨_, rfl⟩
            replace H : (spec_l4Put.l0 kj10 l0 a1 a2 y266 true (wrap64 (x12_1 + 1)) a1 a2 a3) = some r := by first | (rw [hy266]; with_reducible exact H) | (have H2_ := (Option.bind_some _ _).symm.trans H; rw [hy266]; with_reducible exact H2_) | (have H2_ := (Option.bind_some _ _).symm.trans H; with_reducible exact H2_) | with_reducible exact H | (rw [hy266]; exact H) | exact H
            have Ny266 := Aside0.mk hy266
            clear hy266
            have H' := Aside0.mk H
            clear H
            have hnb28 := NB256_261.out
            have hnc28 := NB261_256.out
            have hcz29_0 : wc.cell? ⟨gb256, 0, none⟩ = some (.int .i64 a1) := (blk_cell BK256.out 0).trans rfl
            have hcz29_1 : wc.cell? ⟨gb256, 1, none⟩ = some (.int .i64 a2) := (blk_cell BK256.out 1).trans rfl
            have hcz29_2 : wc.cell? ⟨gb256, 2, none⟩ = some (.int .i64 a3) := (blk_cell BK256.out 2).trans rfl
            have hfz29_0 := blk_frozen BK256.out 0
            have hfz29_1 := blk_frozen BK256.out 1
            have hfz29_2 := blk_frozen BK256.out 2
            go_wp2_with (first | ((with_reducible refine gate_builtin (b := .append) (xs := #[.tmp 43, .tmp 45]) rfl ?_); at_builtin; refine Kd.R_append k58 (w0 := w) w.heap.size rfl (.tmp 43) (.tmp 45) 25 58 (.agg #[(.int .i64 0), (.int .i64 0), (.int .i64 0)]) 24 rfl Try.underlying25 info58 rfl (by decide) (by omega) u9 x9_1 (⟨a1, a2, a3⟩ : S58) [.int .i64 a1, .int .i64 a2, .int .i64 a3] (fun k_ => k_ ≠ gb256 ∧ k_ ≠ gb261) (fun _ => False) rfl rfl ?aP (fun _ hk => hk.elim) ?aF ?aO ?aB ?aS ?aL ?_; (case aP => exact k58_mkM _ _ _ (⟨a1, a2, a3⟩ : S58)); (case aB => exact (by repeat (first | (with_reducible first | exact HB.out | apply below_alloc | apply pw_below_drewN | apply below_drew1 | refine below_set ?_ GE256.out | refine below_set ?_ GE261.out) | exact HB.out))); (case aF => exact (fun k_ hk => ⟨Kd.freshB (g := gb256) (o := .cells #[.int .i64 a1, .int .i64 a2, .int .i64 a3] 58 (0, 0)) (by (with_reducible repeat (first | refine blk_drewN ?_ _ | refine blk_drew ?_ | refine blk_alloc ?_ _)); exact BK256.out) k_ hk, Kd.freshB (g := gb261) (o := .cells #[.int .i64 ((rd_T58 l0 x12_1).f0), .int .i64 ((rd_T58 l0 x12_1).f1), .int .i64 ((rd_T58 l0 x12_1).f2)] 58 (0, 0)) (by (with_reducible repeat (first | refine blk_drewN ?_ _ | refine blk_drew ?_ | refine blk_alloc ?_ _)); exact BK261.out) k_ hk⟩)); (case aO => exact (by (with_reducible repeat (first | apply Kd.R_alloc | apply Kd.R_drewN | apply Kd.R_drew)); exact HO_9.out)); (case aS => exact (below_size (by repeat (first | (with_reducible first | exact HB.out | apply below_alloc | apply pw_below_drewN | apply below_drew1 | refine below_set ?_ GE256.out | refine below_set ?_ GE261.out) | exact HB.out)))); (case aL => have := LMc20.out; omega); intro v264 w30 ho hb hg hat; rw [← Ny263.out] at ho; have n0_ := Aside0.mk (blk_grown (g := gb256) (o := .cells #[.int .i64 a1, .int .i64 a2, .int .i64 a3] 58 (0, 0)) (by (with_reducible repeat (first | refine blk_drewN ?_ _ | refine blk_drew ?_ | refine blk_alloc ?_ _)); exact BK256.out) hg (Kd.R_away HO_9.out (fun _ hk => hk.1))); have n1_ := Aside0.mk (blk_grown (g := gb261) (o := .cells #[.int .i64 ((rd_T58 l0 x12_1).f0), .int .i64 ((rd_T58 l0 x12_1).f1), .int .i64 ((rd_T58 l0 x12_1).f2)] 58 (0, 0)) (by (with_reducible repeat (first | refine blk_drewN ?_ _ | refine blk_drew ?_ | refine blk_alloc ?_ _)); exact BK261.out) hg (Kd.R_away HO_9.out (fun _ hk => hk.2))); have n2_ := Aside0.mk (hb); have n3_ := Aside0.mk (ho); clear BK256; clear BK261; clear HB; clear HO_9; have BK256 := n0_; have BK261 := n1_; have HB := n2_; have HO265 := n3_; clear n0_ n1_ n2_ n3_; clear ho hb hg hat; have hcz31_0 : w30.cell? ⟨gb261, 0, none⟩ = some (.int .i64 ((rd_T58 l0 x12_1).f0)) := (blk_cell BK261.out 0).trans rfl; have hcz31_1 : w30.cell? ⟨gb261, 1, none⟩ = some (.int .i64 ((rd_T58 l0 x12_1).f1)) := (blk_cell BK261.out 1).trans rfl; have hcz31_2 : w30.cell? ⟨gb261, 2, none⟩ = some (.int .i64 ((rd_T58 l0 x12_1).f2)) := (blk_cell BK261.out 2).trans rfl; have hfz31_0 := blk_frozen BK261.out 0; have hfz31_1 := blk_frozen BK261.out 1; have hfz31_2 := blk_frozen BK261.out 2) | ((with_reducible refine gate_builtin (b := .append) (xs := #[.tmp 57, .tmp 59]) rfl ?_); at_builtin; refine Kd.R_append k58 (w0 := w) w.heap.size rfl (.tmp 57) (.tmp 59) 25 58 (.agg #[(.int .i64 0), (.int .i64 0), (.int .i64 0)]) 24 rfl Try.underlying25 info58 rfl (by decide) (by omega) v264 y263 (⟨((rd_T58 l0 x12_1).f0), ((rd_T58 l0 x12_1).f1), ((rd_T58 l0 x12_1).f2)⟩ : S58) [.int .i64 ((rd_T58 l0 x12_1).f0), .int .i64 ((rd_T58 l0 x12_1).f1), .int .i64 ((rd_T58 l0 x12_1).f2)] (fun k_ => k_ ≠ gb256 ∧ k_ ≠ gb261) (fun _ => False) rfl rfl ?aP (fun _ hk => hk.elim) ?aF ?aO ?aB ?aS ?aL ?_; (case aP => exact k58_mkM _ _ _ (⟨((rd_T58 l0 x12_1).f0), ((rd_T58 l0 x12_1).f1), ((rd_T58 l0 x12_1).f2)⟩ : S58)); (case aB => exact (by repeat (first | (with_reducible first | exact HB.out | apply below_alloc | apply pw_below_drewN | apply below_drew1 | refine below_set ?_ GE256.out | refine below_set ?_ GE261.out) | exact HB.out))); (case aF => exact (fun k_ hk => ⟨Kd.freshB (g := gb256) (o := .cells #[.int .i64 a1, .int .i64 a2, .int .i64 a3] 58 (0, 0)) (by (with_reducible repeat (first | refine blk_drewN ?_ _ | refine blk_drew ?_ | refine blk_alloc ?_ _)); exact BK256.out) k_ hk, Kd.freshB (g := gb261) (o := .cells #[.int .i64 ((rd_T58 l0 x12_1).f0), .int .i64 ((rd_T58 l0 x12_1).f1), .int .i64 ((rd_T58 l0 x12_1).f2)] 58 (0, 0)) (by (with_reducible repeat (first | refine blk_drewN ?_ _ | refine blk_drew ?_ | refine blk_alloc ?_ _)); exact BK261.out) k_ hk⟩)); (case aO => exact (by (with_reducible repeat (first | apply Kd.R_alloc | apply Kd.R_drewN | apply Kd.R_drew)); exact HO265.out)); (case aS => exact (below_size (by repeat (first | (with_reducible first | exact HB.out | apply below_alloc | apply pw_below_drewN | apply below_drew1 | refine below_set ?_ GE256.out | refine below_set ?_ GE261.out) | exact HB.out)))); (case aL => have := LMc27.out; omega); intro v267 w32 ho hb hg hat; rw [← Ny266.out] at ho; have n0_ := Aside0.mk (blk_grown (g := gb256) (o := .cells #[.int .i64 a1, .int .i64 a2, .int .i64 a3] 58 (0, 0)) (by (with_reducible repeat (first | refine blk_drewN ?_ _ | refine blk_drew ?_ | refine blk_alloc ?_ _)); exact BK256.out) hg (Kd.R_away HO265.out (fun _ hk => hk.1))); have n1_ := Aside0.mk (blk_grown (g := gb261) (o := .cells #[.int .i64 ((rd_T58 l0 x12_1).f0), .int .i64 ((rd_T58 l0 x12_1).f1), .int .i64 ((rd_T58 l0 x12_1).f2)] 58 (0, 0)) (by (with_reducible repeat (first | refine blk_drewN ?_ _ | refine blk_drew ?_ | refine blk_alloc ?_ _)); exact BK261.out) hg (Kd.R_away HO265.out (fun _ hk => hk.2))); have n2_ := Aside0.mk (hb); have n3_ := Aside0.mk (ho); clear BK256; clear BK261; clear HB; clear HO265; have BK256 := n0_; have BK261 := n1_; have HB := n2_; have HO268 := n3_; clear n0_ n1_ n2_ n3_; clear ho hb hg hat))
            go_roundg kj10
            case measure => have := HK1.out; have := HJ10.out; omega
            case rel => exact ⟨(y266), (true), (wrap64 (x12_1 + 1)), (by first | rfl | (simp; done) | (simp [*]; done)), (by first | rfl | (simp; done) | (simp [*]; done)), H', ⟨by have := HK1.out; have := HJ10.out; omega⟩, ⟨by (with_reducible repeat (first | apply Kd.R_alloc | apply Kd.R_drewN | apply Kd.R_drew)); exact Kd.R_mono HO268.out (fun _ hk => hk.1)⟩, ⟨by (with_reducible repeat (first | refine blk_drewN ?_ _ | refine blk_drew ?_ | refine blk_alloc ?_ _)); exact BK256.out⟩, ⟨by repeat (first | (with_reducible first | exact HB.out | apply below_alloc | apply pw_below_drewN | apply below_drew1 | refine below_set ?_ GE256.out | refine below_set ?_ GE261.out) | exact HB.out)⟩⟩
           ·
            rw [if_neg c27] at H
            exact absurd H (by simp)
         ·
          rw [if_neg c21] at H
          have c21b0 : (((rd_T58 l0 x12_1).f0) == a1) = false := beq_eq_false_iff_ne.mpr c21
          have c21b1 : (((rd_T58 l0 x12_1).f0) != a1) = true := bne_iff_ne.mpr c21
          by_cases c33 : y263.length < 5864062014805
          ·
           rw [if_pos c33] at H
           have LMc33 := Aside0.mk c33
           clear c33
           obtain ⟨y269, hy269⟩ : ∃ y_ : List (S58), y_ = (y263 ++ [(⟨((rd_T58 l0 x12_1).f0), ((rd_T58 l0 x12_1).f1), ((rd_T58 l0 x12_1).f2)⟩ : S58)]) := ⟨_, rfl⟩
           replace H : (spec_l4Put.l0 kj10 l0 a1 a2 y269 true (wrap64 (x12_1 + 1)) a1 a2 a3) = some r := by first | (rw [hy269]; with_reducible exact H) | (have H2_ := (Option.bind_some _ _).symm.trans H; rw [hy269]; with_reducible exact H2_) | (have H2_ := (Option.bind_some _ _).symm.trans H; with_reducible exact H2_) | with_reducible exact H | (rw [hy269]; exact H) | exact H
           have Ny269 := Aside0.mk hy269
           clear hy269
           have H' := Aside0.mk H
           clear H
           have hnb34 := NB256_261.out
           have hnc34 := NB261_256.out
           have hcz35_0 : wc.cell? ⟨gb256, 0, none⟩ = some (.int .i64 a1) := (blk_cell BK256.out 0).trans rfl
           have hcz35_1 : wc.cell? ⟨gb256, 1, none⟩ = some (.int .i64 a2) := (blk_cell BK256.out 1).trans rfl
           have hcz35_2 : wc.cell? ⟨gb256, 2, none⟩ = some (.int .i64 a3) := (blk_cell BK256.out 2).trans rfl
           have hfz35_0 := blk_frozen BK256.out 0
           have hfz35_1 := blk_frozen BK256.out 1
           have hfz35_2 := blk_frozen BK256.out 2
           go_wp2_with (first | ((with_reducible refine gate_builtin (b := .append) (xs := #[.tmp 43, .tmp 45]) rfl ?_); at_builtin; refine Kd.R_append k58 (w0 := w) w.heap.size rfl (.tmp 43) (.tmp 45) 25 58 (.agg #[(.int .i64 0), (.int .i64 0), (.int .i64 0)]) 24 rfl Try.underlying25 info58 rfl (by decide) (by omega) u9 x9_1 (⟨a1, a2, a3⟩ : S58) [.int .i64 a1, .int .i64 a2, .int .i64 a3] (fun k_ => k_ ≠ gb256 ∧ k_ ≠ gb261) (fun _ => False) rfl rfl ?aP (fun _ hk => hk.elim) ?aF ?aO ?aB ?aS ?aL ?_; (case aP => exact k58_mkM _ _ _ (⟨a1, a2, a3⟩ : S58)); (case aB => exact (by repeat (first | (with_reducible first | exact HB.out | apply below_alloc | apply pw_below_drewN | apply below_drew1 | refine below_set ?_ GE256.out | refine below_set ?_ GE261.out) | exact HB.out))); (case aF => exact (fun k_ hk => ⟨Kd.freshB (g := gb256) (o := .cells #[.int .i64 a1, .int .i64 a2, .int .i64 a3] 58 (0, 0)) (by (with_reducible repeat (first | refine blk_drewN ?_ _ | refine blk_drew ?_ | refine blk_alloc ?_ _)); exact BK256.out) k_ hk, Kd.freshB (g := gb261) (o := .cells #[.int .i64 ((rd_T58 l0 x12_1).f0), .int .i64 ((rd_T58 l0 x12_1).f1), .int .i64 ((rd_T58 l0 x12_1).f2)] 58 (0, 0)) (by (with_reducible repeat (first | refine blk_drewN ?_ _ | refine blk_drew ?_ | refine blk_alloc ?_ _)); exact BK261.out) k_ hk⟩)); (case aO => exact (by (with_reducible repeat (first | apply Kd.R_alloc | apply Kd.R_drewN | apply Kd.R_drew)); exact HO_9.out)); (case aS => exact (below_size (by repeat (first | (with_reducible first | exact HB.out | apply below_alloc | apply pw_below_drewN | apply below_drew1 | refine below_set ?_ GE256.out | refine below_set ?_ GE261.out) | exact HB.out)))); (case aL => have := LMc20.out; omega); intro v264 w36 ho hb hg hat; rw [← Ny263.out] at ho; have n0_ := Aside0.mk (blk_grown (g := gb256) (o := .cells #[.int .i64 a1, .int .i64 a2, .int .i64 a3] 58 (0, 0)) (by (with_reducible repeat (first | refine blk_drewN ?_ _ | refine blk_drew ?_ | refine blk_alloc ?_ _)); exact BK256.out) hg (Kd.R_away HO_9.out (fun _ hk => hk.1))); have n1_ := Aside0.mk (blk_grown (g := gb261) (o := .cells #[.int .i64 ((rd_T58 l0 x12_1).f0), .int .i64 ((rd_T58 l0 x12_1).f1), .int .i64 ((rd_T58 l0 x12_1).f2)] 58 (0, 0)) (by (with_reducible repeat (first | refine blk_drewN ?_ _ | refine blk_drew ?_ | refine blk_alloc ?_ _)); exact BK261.out) hg (Kd.R_away HO_9.out (fun _ hk => hk.2))); have n2_ := Aside0.mk (hb); have n3_ := Aside0.mk (ho); clear BK256; clear BK261; clear HB; clear HO_9; have BK256 := n0_; have BK261 := n1_; have HB := n2_; have HO265 := n3_; clear n0_ n1_ n2_ n3_; clear ho hb hg hat; have hcz37_0 : w36.cell? ⟨gb261, 0, none⟩ = some (.int .i64 ((rd_T58 l0 x12_1).f0)) := (blk_cell BK261.out 0).trans rfl; have hcz37_1 : w36.cell? ⟨gb261, 1, none⟩ = some (.int .i64 ((rd_T58 l0 x12_1).f1)) := (blk_cell BK261.out 1).trans rfl; have hcz37_2 : w36.cell? ⟨gb261, 2, none⟩ = some (.int .i64 ((rd_T58 l0 x12_1).f2)) := (blk_cell BK261.out 2).trans rfl; have hfz37_0 := blk_frozen BK261.out 0; have hfz37_1 := blk_frozen BK261.out 1; have hfz37_2 := blk_frozen BK261.out 2) | ((with_reducible refine gate_builtin (b := .append) (xs := #[.tmp 57, .tmp 59]) rfl ?_); at_builtin; refine Kd.R_append k58 (w0 := w) w.heap.size rfl (.tmp 57) (.tmp 59) 25 58 (.agg #[(.int .i64 0), (.int .i64 0), (.int .i64 0)]) 24 rfl Try.underlying25 info58 rfl (by decide) (by omega) v264 y263 (⟨((rd_T58 l0 x12_1).f0), ((rd_T58 l0 x12_1).f1), ((rd_T58 l0 x12_1).f2)⟩ : S58) [.int .i64 ((rd_T58 l0 x12_1).f0), .int .i64 ((rd_T58 l0 x12_1).f1), .int .i64 ((rd_T58 l0 x12_1).f2)] (fun k_ => k_ ≠ gb256 ∧ k_ ≠ gb261) (fun _ => False) rfl rfl ?aP (fun _ hk => hk.elim) ?aF ?aO ?aB ?aS ?aL ?_; (case aP => exact k58_mkM _ _ _ (⟨((rd_T58 l0 x12_1).f0), ((rd_T58 l0 x12_1).f1), ((rd_T58 l0 x12_1).f2)⟩ : S58)); (case aB => exact (by repeat (first | (with_reducible first | exact HB.out | apply below_alloc | apply pw_below_drewN | apply below_drew1 | refine below_set ?_ GE256.out | refine below_set ?_ GE261.out) | exact HB.out))); (case aF => exact (fun k_ hk => ⟨Kd.freshB (g := gb256) (o := .cells #[.int .i64 a1, .int .i64 a2, .int .i64 a3] 58 (0, 0)) (by (with_reducible repeat (first | refine blk_drewN ?_ _ | refine blk_drew ?_ | refine blk_alloc ?_ _)); exact BK256.out) k_ hk, Kd.freshB (g := gb261) (o := .cells #[.int .i64 ((rd_T58 l0 x12_1).f0), .int .i64 ((rd_T58 l0 x12_1).f1), .int .i64 ((rd_T58 l0 x12_1).f2)] 58 (0, 0)) (by (with_reducible repeat (first | refine blk_drewN ?_ _ | refine blk_drew ?_ | refine blk_alloc ?_ _)); exact BK261.out) k_ hk⟩)); (case aO => exact (by (with_reducible repeat (first | apply Kd.R_alloc | apply Kd.R_drewN | apply Kd.R_drew)); exact HO265.out)); (case aS => exact (below_size (by repeat (first | (with_reducible first | exact HB.out | apply below_alloc | apply pw_below_drewN | apply below_drew1 | refine below_set ?_ GE256.out | refine below_set ?_ GE261.out) | exact HB.out)))); (case aL => have := LMc33.out; omega); intro v270 w38 ho hb hg hat; rw [← Ny269.out] at ho; have n0_ := Aside0.mk (blk_grown (g := gb256) (o := .cells #[.int .i64 a1, .int .i64 a2, .int .i64 a3] 58 (0, 0)) (by (with_reducible repeat (first | refine blk_drewN ?_ _ | refine blk_drew ?_ | refine blk_alloc ?_ _)); exact BK256.out) hg (Kd.R_away HO265.out (fun _ hk => hk.1))); have n1_ := Aside0.mk (blk_grown (g := gb261) (o := .cells #[.int .i64 ((rd_T58 l0 x12_1).f0), .int .i64 ((rd_T58 l0 x12_1).f1), .int .i64 ((rd_T58 l0 x12_1).f2)] 58 (0, 0)) (by (with_reducible repeat (first | refine blk_drewN ?_ _ | refine blk_drew ?_ | refine blk_alloc ?_ _)); exact BK261.out) hg (Kd.R_away HO265.out (fun _ hk => hk.2))); have n2_ := Aside0.mk (hb); have n3_ := Aside0.mk (ho); clear BK256; clear BK261; clear HB; clear HO265; have BK256 := n0_; have BK261 := n1_; have HB := n2_; have HO271 := n3_; clear n0_ n1_ n2_ n3_; clear ho hb hg hat))
           go_roundg kj10
           case measure => have := HK1.out; have := HJ10.out; omega
           case rel => exact ⟨(y269), (true), (wrap64 (x12_1 + 1)), (by first | rfl | (simp; done) | (simp [*]; done)), (by first | rfl | (simp; done) | (simp [*]; done)), H', ⟨by have := HK1.out; have := HJ10.out; omega⟩, ⟨by (with_reducible repeat (first | apply Kd.R_alloc | apply Kd.R_drewN | apply Kd.R_drew)); exact Kd.R_mono HO271.out (fun _ hk => hk.1)⟩, ⟨by (with_reducible repeat (first | refine blk_drewN ?_ _ | refine blk_drew ?_ | refine blk_alloc ?_ _)); exact BK256.out⟩, ⟨by repeat (first | (with_reducible first | exact HB.out | apply below_alloc | apply pw_below_drewN | apply below_drew1 | refine below_set ?_ GE256.out | refine below_set ?_ GE261.out) | exact HB.out)⟩⟩
          ·
           rw [if_neg c33] at H
           exact absurd H (by simp)
        ·
         rw [if_neg c20] at H
         exact absurd H (by simp)
       ·
        replace c19 := Bool.eq_false_iff.mpr c19
        subst c19
        have H1 : (if ((rd_T58 l0 x12_1).f0) = a1 then (if ((rd_T58 l0 x12_1).f1) = a2 then (spec_l4Put.l0 kj10 l0 a1 a2 x9_1 x10_1 (wrap64 (x12_1 + 1)) a1 a2 a3) else (if x9_1.length < 5864062014805 then (spec_l4Put.l0 kj10 l0 a1 a2 (x9_1 ++ [(⟨((rd_T58 l0 x12_1).f0), ((rd_T58 l0 x12_1).f1), ((rd_T58 l0 x12_1).f2)⟩ : S58)]) x10_1 (wrap64 (x12_1 + 1)) a1 a2 a3) else (none))) else (if x9_1.length < 5864062014805 then (spec_l4Put.l0 kj10 l0 a1 a2 (x9_1 ++ [(⟨((rd_T58 l0 x12_1).f0), ((rd_T58 l0 x12_1).f1), ((rd_T58 l0 x12_1).f2)⟩ : S58)]) x10_1 (wrap64 (x12_1 + 1)) a1 a2 a3) else (none))) = some r := by rw [if_neg (show ¬ (false = true) by decide)] at H; exact H
        clear H
        have H := H1
        clear H1
        by_cases c39 : ((rd_T58 l0 x12_1).f0) = a1
        ·
         rw [if_pos c39] at H
         have c39b0 : (((rd_T58 l0 x12_1).f0) == a1) = true := beq_iff_eq.mpr c39
         have c39b1 : (((rd_T58 l0 x12_1).f0) != a1) = false := bne_eq_false_iff_eq.mpr c39
         clear c39
         by_cases c40 : ((rd_T58 l0 x12_1).f1) = a2
         ·
          rw [if_pos c40] at H
          have c40b0 : (((rd_T58 l0 x12_1).f1) == a2) = true := beq_iff_eq.mpr c40
          have c40b1 : (((rd_T58 l0 x12_1).f1) != a2) = false := bne_eq_false_iff_eq.mpr c40
          clear c40
          have H' := Aside0.mk H
          clear H
          have hnb41 := NB261_256.out
          have hnc41 := NB256_261.out
          have hcz42_0 : wc.cell? ⟨gb261, 0, none⟩ = some (.int .i64 ((rd_T58 l0 x12_1).f0)) := (blk_cell BK261.out 0).trans rfl
          have hcz42_1 : wc.cell? ⟨gb261, 1, none⟩ = some (.int .i64 ((rd_T58 l0 x12_1).f1)) := (blk_cell BK261.out 1).trans rfl
          have hcz42_2 : wc.cell? ⟨gb261, 2, none⟩ = some (.int .i64 ((rd_T58 l0 x12_1).f2)) := (blk_cell BK261.out 2).trans rfl
          have hfz42_0 := blk_frozen BK261.out 0
          have hfz42_1 := blk_frozen BK261.out 1
          have hfz42_2 := blk_frozen BK261.out 2
          go_wp2
          go_roundg kj10
          case measure => have := HK1.out; have := HJ10.out; omega
          case rel => exact ⟨(x9_1), (x10_1), (wrap64 (x12_1 + 1)), (by first | rfl | (simp; done) | (simp [*]; done)), (by first | rfl | (simp; done) | (simp [*]; done)), H', ⟨by have := HK1.out; have := HJ10.out; omega⟩, ⟨by (with_reducible repeat (first | apply Kd.R_alloc | apply Kd.R_drewN | apply Kd.R_drew)); exact Kd.R_mono HO_9.out (fun _ hk => hk.1)⟩, ⟨by (with_reducible repeat (first | refine blk_drewN ?_ _ | refine blk_drew ?_ | refine blk_alloc ?_ _)); exact BK256.out⟩, ⟨by repeat (first | (with_reducible first | exact HB.out | apply below_alloc | apply pw_below_drewN | apply below_drew1 | refine below_set ?_ GE256.out | refine below_set ?_ GE261.out) | exact HB.out)⟩⟩
         ·
          rw [if_neg c40] at H
          have c40b0 : (((rd_T58 l0 x12_1).f1) == a2) = false := beq_eq_false_iff_ne.mpr c40
          have c40b1 : (((rd_T58 l0 x12_1).f1) != a2) = true := bne_iff_ne.mpr c40
          by_cases c43 : x9_1.length < 5864062014805
          ·
           rw [if_pos c43] at H
           have LMc43 := Aside0.mk c43
           clear c43
           obtain ⟨y272, hy272⟩ : ∃ y_ : List (S58), y_ = (x9_1 ++ [(⟨((rd_T58 l0 x12_1).f0), ((rd_T58 l0 x12_1).f1), ((rd_T58 l0 x12_1).f2)⟩ : S58)]) := ⟨_, rfl⟩
           replace H : (spec_l4Put.l0 kj10 l0 a1 a2 y272 x10_1 (wrap64 (x12_1 + 1)) a1 a2 a3) = some r := by first | (rw [hy272]; with_reducible exact H) | (have H2_ := (Option.bind_some _ _).symm.trans H; rw [hy272]; with_reducible exact H2_) | (have H2_ := (Option.bind_some _ _).symm.trans H; with_reducible exact H2_) | with_reducible exact H | (rw [hy272]; exact H) | exact H
           have Ny272 := Aside0.mk hy272
           clear hy272
           have H' := Aside0.mk H
           clear H
           have hnb44 := NB261_256.out
           have hnc44 := NB256_261.out
           have hcz45_0 : wc.cell? ⟨gb261, 0, none⟩ = some (.int .i64 ((rd_T58 l0 x12_1).f0)) := (blk_cell BK261.out 0).trans rfl
           have hcz45_1 : wc.cell? ⟨gb261, 1, none⟩ = some (.int .i64 ((rd_T58 l0 x12_1).f1)) := (blk_cell BK261.out 1).trans rfl
           have hcz45_2 : wc.cell? ⟨gb261, 2, none⟩ = some (.int .i64 ((rd_T58 l0 x12_1).f2)) := (blk_cell BK261.out 2).trans rfl
           have hfz45_0 := blk_frozen BK261.out 0
           have hfz45_1 := blk_frozen BK261.out 1
           have hfz45_2 := blk_frozen BK261.out 2
           go_wp2_with (first | ((with_reducible refine gate_builtin (b := .append) (xs := #[.tmp 57, .tmp 59]) rfl ?_); at_builtin; refine Kd.R_append k58 (w0 := w) w.heap.size rfl (.tmp 57) (.tmp 59) 25 58 (.agg #[(.int .i64 0), (.int .i64 0), (.int .i64 0)]) 24 rfl Try.underlying25 info58 rfl (by decide) (by omega) u9 x9_1 (⟨((rd_T58 l0 x12_1).f0), ((rd_T58 l0 x12_1).f1), ((rd_T58 l0 x12_1).f2)⟩ : S58) [.int .i64 ((rd_T58 l0 x12_1).f0), .int .i64 ((rd_T58 l0 x12_1).f1), .int .i64 ((rd_T58 l0 x12_1).f2)] (fun k_ => k_ ≠ gb256 ∧ k_ ≠ gb261) (fun _ => False) rfl rfl ?aP (fun _ hk => hk.elim) ?aF ?aO ?aB ?aS ?aL ?_; (case aP => exact k58_mkM _ _ _ (⟨((rd_T58 l0 x12_1).f0), ((rd_T58 l0 x12_1).f1), ((rd_T58 l0 x12_1).f2)⟩ : S58)); (case aB => exact (by repeat (first | (with_reducible first | exact HB.out | apply below_alloc | apply pw_below_drewN | apply below_drew1 | refine below_set ?_ GE256.out | refine below_set ?_ GE261.out) | exact HB.out))); (case aF => exact (fun k_ hk => ⟨Kd.freshB (g := gb256) (o := .cells #[.int .i64 a1, .int .i64 a2, .int .i64 a3] 58 (0, 0)) (by (with_reducible repeat (first | refine blk_drewN ?_ _ | refine blk_drew ?_ | refine blk_alloc ?_ _)); exact BK256.out) k_ hk, Kd.freshB (g := gb261) (o := .cells #[.int .i64 ((rd_T58 l0 x12_1).f0), .int .i64 ((rd_T58 l0 x12_1).f1), .int .i64 ((rd_T58 l0 x12_1).f2)] 58 (0, 0)) (by (with_reducible repeat (first | refine blk_drewN ?_ _ | refine blk_drew ?_ | refine blk_alloc ?_ _)); exact BK261.out) k_ hk⟩)); (case aO => exact (by (with_reducible repeat (first | apply Kd.R_alloc | apply Kd.R_drewN | apply Kd.R_drew)); exact HO_9.out)); (case aS => exact (below_size (by repeat (first | (with_reducible first | exact HB.out | apply below_alloc | apply pw_below_drewN | apply below_drew1 | refine below_set ?_ GE256.out | refine below_set ?_ GE261.out) | exact HB.out)))); (case aL => have := LMc43.out; omega); intro v273 w46 ho hb hg hat; rw [← Ny272.out] at ho; have n0_ := Aside0.mk (blk_grown (g := gb256) (o := .cells #[.int .i64 a1, .int .i64 a2, .int .i64 a3] 58 (0, 0)) (by (with_reducible repeat (first | refine blk_drewN ?_ _ | refine blk_drew ?_ | refine blk_alloc ?_ _)); exact BK256.out) hg (Kd.R_away HO_9.out (fun _ hk => hk.1))); have n1_ := Aside0.mk (blk_grown (g := gb261) (o := .cells #[.int .i64 ((rd_T58 l0 x12_1).f0), .int .i64 ((rd_T58 l0 x12_1).f1), .int .i64 ((rd_T58 l0 x12_1).f2)] 58 (0, 0)) (by (with_reducible repeat (first | refine blk_drewN ?_ _ | refine blk_drew ?_ | refine blk_alloc ?_ _)); exact BK261.out) hg (Kd.R_away HO_9.out (fun _ hk => hk.2))); have n2_ := Aside0.mk (hb); have n3_ := Aside0.mk (ho); clear BK256; clear BK261; clear HB; clear HO_9; have BK256 := n0_; have BK261 := n1_; have HB := n2_; have HO274 := n3_; clear n0_ n1_ n2_ n3_; clear ho hb hg hat))
           go_roundg kj10
           case measure => have := HK1.out; have := HJ10.out; omega
           case rel => exact ⟨(y272), (x10_1), (wrap64 (x12_1 + 1)), (by first | rfl | (simp; done) | (simp [*]; done)), (by first | rfl | (simp; done) | (simp [*]; done)), H', ⟨by have := HK1.out; have := HJ10.out; omega⟩, ⟨by (with_reducible repeat (first | apply Kd.R_alloc | apply Kd.R_drewN | apply Kd.R_drew)); exact Kd.R_mono HO274.out (fun _ hk => hk.1)⟩, ⟨by (with_reducible repeat (first | refine blk_drewN ?_ _ | refine blk_drew ?_ | refine blk_alloc ?_ _)); exact BK256.out⟩, ⟨by repeat (first | (with_reducible first | exact HB.out | apply below_alloc | apply pw_below_drewN | apply below_drew1 | refine below_set ?_ GE256.out | refine below_set ?_ GE261.out) | exact HB.out)⟩⟩
          ·
           rw [if_neg c43] at H
           exact absurd H (by simp)
        ·
         rw [if_neg c39] at H
         have c39b0 : (((rd_T58 l0 x12_1).f0) == a1) = false := beq_eq_false_iff_ne.mpr c39
         have c39b1 : (((rd_T58 l0 x12_1).f0) != a1) = true := bne_iff_ne.mpr c39
         by_cases c47 : x9_1.length < 5864062014805
         ·
          rw [if_pos c47] at H
          have LMc47 := Aside0.mk c47
          clear c47
          obtain ⟨y275, hy275⟩ : ∃ y_ : List (S58), y_ = (x9_1 ++ [(⟨((rd_T58 l0 x12_1).f0), ((rd_T58 l0 x12_1).f1), ((rd_T58 l0 x12_1).f2)⟩ : S58)]) := ⟨_, rfl⟩
          replace H : (spec_l4Put.l0 kj10 l0 a1 a2 y275 x10_1 (wrap64 (x12_1 + 1)) a1 a2 a3) = some r := by first | (rw [hy275]; with_reducible exact H) | (have H2_ := (Option.bind_some _ _).symm.trans H; rw [hy275]; with_reducible exact H2_) | (have H2_ := (Option.bind_some _ _).symm.trans H; with_reducible exact H2_) | with_reducible exact H | (rw [hy275]; exact H) | exact H
          have Ny275 := Aside0.mk hy275
          clear hy275
          have H' := Aside0.mk H
          clear H
          have hnb48 := NB261_256.out
          have hnc48 := NB256_261.out
          have hcz49_0 : wc.cell? ⟨gb261, 0, none⟩ = some (.int .i64 ((rd_T58 l0 x12_1).f0)) := (blk_cell BK261.out 0).trans rfl
          have hcz49_1 : wc.cell? ⟨gb261, 1, none⟩ = some (.int .i64 ((rd_T58 l0 x12_1).f1)) := (blk_cell BK261.out 1).trans rfl
          have hcz49_2 : wc.cell? ⟨gb261, 2, none⟩ = some (.int .i64 ((rd_T58 l0 x12_1).f2)) := (blk_cell BK261.out 2).trans rfl
          have hfz49_0 := blk_frozen BK261.out 0
          have hfz49_1 := blk_frozen BK261.out 1
          have hfz49_2 := blk_frozen BK261.out 2
          go_wp2_with (first | ((with_reducible refine gate_builtin (b := .append) (xs := #[.tmp 57, .tmp 59]) rfl ?_); at_builtin; refine Kd.R_append k58 (w0 := w) w.heap.size rfl (.tmp 57) (.tmp 59) 25 58 (.agg #[(.int .i64 0), (.int .i64 0), (.int .i64 0)]) 24 rfl Try.underlying25 info58 rfl (by decide) (by omega) u9 x9_1 (⟨((rd_T58 l0 x12_1).f0), ((rd_T58 l0 x12_1).f1), ((rd_T58 l0 x12_1).f2)⟩ : S58) [.int .i64 ((rd_T58 l0 x12_1).f0), .int .i64 ((rd_T58 l0 x12_1).f1), .int .i64 ((rd_T58 l0 x12_1).f2)] (fun k_ => k_ ≠ gb256 ∧ k_ ≠ gb261) (fun _ => False) rfl rfl ?aP (fun _ hk => hk.elim) ?aF ?aO ?aB ?aS ?aL ?_; (case aP => exact k58_mkM _ _ _ (⟨((rd_T58 l0 x12_1).f0), ((rd_T58 l0 x12_1).f1), ((rd_T58 l0 x12_1).f2)⟩ : S58)); (case aB => exact (by repeat (first | (with_reducible first | exact HB.out | apply below_alloc | apply pw_below_drewN | apply below_drew1 | refine below_set ?_ GE256.out | refine below_set ?_ GE261.out) | exact HB.out))); (case aF => exact (fun k_ hk => ⟨Kd.freshB (g := gb256) (o := .cells #[.int .i64 a1, .int .i64 a2, .int .i64 a3] 58 (0, 0)) (by (with_reducible repeat (first | refine blk_drewN ?_ _ | refine blk_drew ?_ | refine blk_alloc ?_ _)); exact BK256.out) k_ hk, Kd.freshB (g := gb261) (o := .cells #[.int .i64 ((rd_T58 l0 x12_1).f0), .int .i64 ((rd_T58 l0 x12_1).f1), .int .i64 ((rd_T58 l0 x12_1).f2)] 58 (0, 0)) (by (with_reducible repeat (first | refine blk_drewN ?_ _ | refine blk_drew ?_ | refine blk_alloc ?_ _)); exact BK261.out) k_ hk⟩)); (case aO => exact (by (with_reducible repeat (first | apply Kd.R_alloc | apply Kd.R_drewN | apply Kd.R_drew)); exact HO_9.out)); (case aS => exact (below_size (by repeat (first | (with_reducible first | exact HB.out | apply below_alloc | apply pw_below_drewN | apply below_drew1 | refine below_set ?_ GE256.out | refine below_set ?_ GE261.out) | exact HB.out)))); (case aL => have := LMc47.out; omega); intro v276 w50 ho hb hg hat; rw [← Ny275.out] at ho; have n0_ := Aside0.mk (blk_grown (g := gb256) (o := .cells #[.int .i64 a1, .int .i64 a2, .int .i64 a3] 58 (0, 0)) (by (with_reducible repeat (first | refine blk_drewN ?_ _ | refine blk_drew ?_ | refine blk_alloc ?_ _)); exact BK256.out) hg (Kd.R_away HO_9.out (fun _ hk => hk.1))); have n1_ := Aside0.mk (blk_grown (g := gb261) (o := .cells #[.int .i64 ((rd_T58 l0 x12_1).f0), .int .i64 ((rd_T58 l0 x12_1).f1), .int .i64 ((rd_T58 l0 x12_1).f2)] 58 (0, 0)) (by (with_reducible repeat (first | refine blk_drewN ?_ _ | refine blk_drew ?_ | refine blk_alloc ?_ _)); exact BK261.out) hg (Kd.R_away HO_9.out (fun _ hk => hk.2))); have n2_ := Aside0.mk (hb); have n3_ := Aside0.mk (ho); clear BK256; clear BK261; clear HB; clear HO_9; have BK256 := n0_; have BK261 := n1_; have HB := n2_; have HO277 := n3_; clear n0_ n1_ n2_ n3_; clear ho hb hg hat))
          go_roundg kj10
          case measure => have := HK1.out; have := HJ10.out; omega
          case rel => exact ⟨(y275), (x10_1), (wrap64 (x12_1 + 1)), (by first | rfl | (simp; done) | (simp [*]; done)), (by first | rfl | (simp; done) | (simp [*]; done)), H', ⟨by have := HK1.out; have := HJ10.out; omega⟩, ⟨by (with_reducible repeat (first | apply Kd.R_alloc | apply Kd.R_drewN | apply Kd.R_drew)); exact Kd.R_mono HO277.out (fun _ hk => hk.1)⟩, ⟨by (with_reducible repeat (first | refine blk_drewN ?_ _ | refine blk_drew ?_ | refine blk_alloc ?_ _)); exact BK256.out⟩, ⟨by repeat (first | (with_reducible first | exact HB.out | apply below_alloc | apply pw_below_drewN | apply below_drew1 | refine below_set ?_ GE256.out | refine below_set ?_ GE261.out) | exact HB.out)⟩⟩
         ·
          rw [if_neg c47] at H
          exact absurd H (by simp)
    ·
     rw [if_neg c10] at H
     exact absurd H (by simp)
   ·
    rw [if_neg c9] at H
    have c9b0 : decide (x12_1 < (l0.length : Int)) = false := decide_eq_false c9
    clear c9
    by_cases c51 : x10_1 = true
    ·
     subst c51
     have H1 : (some x9_1) = some r := by rw [if_pos rfl] at H; exact H
     clear H
     have H := H1
     clear H1
     obtain rfl := Option.some.inj H
     go_wp2
     go_ret
     exact ⟨_, by first | rfl | (simp [errW_none, errW_some] <;> rfl) | (simp [*, errW_none, errW_some] <;> rfl), by (with_reducible repeat (first | apply Kd.R_alloc | apply Kd.R_drewN | apply Kd.R_drew)); exact Kd.R_mono HO_9.out (fun _ hk => trivial), by repeat (first | (with_reducible first | exact HB.out | apply below_alloc | apply pw_below_drewN | apply below_drew1 | refine below_set ?_ GE256.out) | exact HB.out)⟩
    ·
     replace c51 := Bool.eq_false_iff.mpr c51
     subst c51
     have H1 : (if x9_1.length < 5864062014805 then (some (x9_1 ++ [(⟨a1, a2, a3⟩ : S58)])) else (none)) = some r := by rw [if_neg (show ¬ (false = true) by decide)] at H; exact H
     clear H
     have H := H1
     clear H1
     by_cases c52 : x9_1.length < 5864062014805
     ·
      rw [if_pos c52] at H
      have LMc52 := Aside0.mk c52
      clear c52
      obtain ⟨y257, hy257⟩ : ∃ y_ : List (S58), y_ = (x9_1 ++ [(⟨a1, a2, a3⟩ : S58)]) := ⟨_, rfl⟩
      replace H : (some y257) = some r := by first | (rw [hy257]; with_reducible exact H) | (have H2_ := (Option.bind_some _ _).symm.trans H; rw [hy257]; with_reducible exact H2_) | (have H2_ := (Option.bind_some _ _).symm.trans H; with_reducible exact H2_) | with_reducible exact H | (rw [hy257]; exact H) | exact H
      have Ny257 := Aside0.mk hy257
      clear hy257
      obtain rfl := Option.some.inj H
      have hcz53_0 : wr.cell? ⟨gb256, 0, none⟩ = some (.int .i64 a1) := (blk_cell BK256.out 0).trans rfl
      have hcz53_1 : wr.cell? ⟨gb256, 1, none⟩ = some (.int .i64 a2) := (blk_cell BK256.out 1).trans rfl
      have hcz53_2 : wr.cell? ⟨gb256, 2, none⟩ = some (.int .i64 a3) := (blk_cell BK256.out 2).trans rfl
      have hfz53_0 := blk_frozen BK256.out 0
      have hfz53_1 := blk_frozen BK256.out 1
      have hfz53_2 := blk_frozen BK256.out 2
      go_wp2_with (first | ((with_reducible refine gate_builtin (b := .append) (xs := #[.tmp 63, .tmp 65]) rfl ?_); at_builtin; refine Kd.R_append k58 (w0 := w) w.heap.size rfl (.tmp 63) (.tmp 65) 25 58 (.agg #[(.int .i64 0), (.int .i64 0), (.int .i64 0)]) 24 rfl Try.underlying25 info58 rfl (by decide) (by omega) u9 x9_1 (⟨a1, a2, a3⟩ : S58) [.int .i64 a1, .int .i64 a2, .int .i64 a3] (fun k_ => k_ ≠ gb256) (fun _ => False) rfl rfl ?aP (fun _ hk => hk.elim) ?aF ?aO ?aB ?aS ?aL ?_; (case aP => exact k58_mkM _ _ _ (⟨a1, a2, a3⟩ : S58)); (case aB => exact (by repeat (first | (with_reducible first | exact HB.out | apply below_alloc | apply pw_below_drewN | apply below_drew1 | refine below_set ?_ GE256.out) | exact HB.out))); (case aF => exact (fun k_ hk => Kd.freshB (g := gb256) (o := .cells #[.int .i64 a1, .int .i64 a2, .int .i64 a3] 58 (0, 0)) (by (with_reducible repeat (first | refine blk_drewN ?_ _ | refine blk_drew ?_ | refine blk_alloc ?_ _)); exact BK256.out) k_ hk)); (case aO => exact (by (with_reducible repeat (first | apply Kd.R_alloc | apply Kd.R_drewN | apply Kd.R_drew)); exact HO_9.out)); (case aS => exact (below_size (by repeat (first | (with_reducible first | exact HB.out | apply below_alloc | apply pw_below_drewN | apply below_drew1 | refine below_set ?_ GE256.out) | exact HB.out)))); (case aL => have := LMc52.out; omega); intro v258 w54 ho hb hg hat; rw [← Ny257.out] at ho; have n0_ := Aside0.mk (blk_grown (g := gb256) (o := .cells #[.int .i64 a1, .int .i64 a2, .int .i64 a3] 58 (0, 0)) (by (with_reducible repeat (first | refine blk_drewN ?_ _ | refine blk_drew ?_ | refine blk_alloc ?_ _)); exact BK256.out) hg (Kd.R_away HO_9.out (fun _ hk => hk))); have n1_ := Aside0.mk (hb); have n2_ := Aside0.mk (ho); clear BK256; clear HB; clear HO_9; have BK256 := n0_; have HB := n1_; have HO259 := n2_; clear n0_ n1_ n2_; clear ho hb hg hat))
      go_ret
      exact ⟨_, by first | rfl | (simp [errW_none, errW_some] <;> rfl) | (simp [*, errW_none, errW_some] <;> rfl), by (with_reducible repeat (first | apply Kd.R_alloc | apply Kd.R_drewN | apply Kd.R_drew)); exact Kd.R_mono HO259.out (fun _ hk => trivial), by repeat (first | (with_reducible first | exact HB.out | apply below_alloc | apply pw_below_drewN | apply below_drew1 | refine below_set ?_ GE256.out) | exact HB.out)⟩
     ·
      rw [if_neg c52] at H
      exact absurd H (by simp)
def spec_BalPut.j0 : Nat → List (S58) → Int → Int → Int → Bool → Option ((List (S58)) × Bool)
 | 0, _, _, _, _, _ => none
 | k + 1, x0, x1, x2, x3, x28 => if x28 = true then (some ((([] : List (S58))), false)) else ((spec_l4Put.f k x0 x1 x2 x3).bind fun t285 => ((spec_BalsOk.f k t285).bind fun t288 => (if t288 = true then (some (t285, true)) else (some ((([] : List (S58))), false)))))
def spec_BalPut.f (k : Nat) (l0 : List (S58)) (a1 : Int) (a2 : Int) (a3 : Int) : Option ((List (S58)) × Bool) := (spec_BalsOk.f k l0).bind fun t278 => (if t278 = true then ((spec_l3No.f a1).bind fun t279 => (if t279 = true then ((spec_l3No.f a2).bind fun t280 => (if t280 = true then ((spec_AmountOk.f a3).bind fun t281 => (spec_BalPut.j0 k l0 a1 a2 a3 (!t281))) else (spec_BalPut.j0 k l0 a1 a2 a3 true))) else (spec_BalPut.j0 k l0 a1 a2 a3 true))) else (spec_BalPut.j0 k l0 a1 a2 a3 true))
set_option maxHeartbeats 8000000 in
set_option maxRecDepth 100000 in
theorem spec_BalPut.calls (k : Nat) (A0 : Option Addr) (c0 : Nat) (l0 : List (S58)) (a1 : Int) (a2 : Int) (a3 : Int) (r1 : List (S58)) (r2 : Bool) (w : World) (hr0 : Kd.C k58 w A0 l0.length l0) (hc0 : l0.length ≤ c0) (h : spec_BalPut.f k l0 a1 a2 a3 = some (r1, r2)) :
 Calls Try.prog 26 #[.slice A0 l0.length c0, .int .i64 a1, .int .i64 a2, .int .i64 a3] w fun e w' => ∃ v0_ : Value, e = .returned (.tuple #[v0_, .bool r2]) ∧ Kd.R k58 58 w' w.heap.size (fun _ => True) v0_ r1 ∧ Below w.heap.size w w' := by
 have HR0 := Aside0.mk hr0
 have HC0 := Aside0.mk hc0
 clear hr0 hc0
 have HB := Aside0.mk (Below.refl w.heap.size w)
 have H : ((spec_BalsOk.f k l0).bind fun t278 => (if t278 = true then ((spec_l3No.f a1).bind fun t279 => (if t279 = true then ((spec_l3No.f a2).bind fun t280 => (if t280 = true then ((spec_AmountOk.f a3).bind fun t281 => (spec_BalPut.j0 k l0 a1 a2 a3 (!t281))) else (spec_BalPut.j0 k l0 a1 a2 a3 true))) else (spec_BalPut.j0 k l0 a1 a2 a3 true))) else (spec_BalPut.j0 k l0 a1 a2 a3 true))) = some (r1, r2) := h
 clear h
 have HC5 := Aside0.mk H
 clear H
 go_enter Try.func26, Try.ntmps26
 go_upto_region 1 with (fail)
 go_cut [28] (fun v28 wc => ∃ (kq : Nat) (x28_4 : Bool), v28 = .bool x28_4 ∧ Aside0 (spec_BalPut.j0 kq l0 a1 a2 a3 x28_4 = some (r1, r2)) ∧ Aside0 (kq ≤ k) ∧ Aside0 (Below w.heap.size w wc))
 case first =>
  have H := HC5.out
  clear HC5
  replace H := Option.bind_eq_some_iff.mp H
  obtain ⟨t278, A60, H⟩ := H
  replace H : (if t278 = true then ((spec_l3No.f a1).bind fun t279 => (if t279 = true then ((spec_l3No.f a2).bind fun t280 => (if t280 = true then ((spec_AmountOk.f a3).bind fun t281 => (spec_BalPut.j0 k l0 a1 a2 a3 (!t281))) else (spec_BalPut.j0 k l0 a1 a2 a3 true))) else (spec_BalPut.j0 k l0 a1 a2 a3 true))) else (spec_BalPut.j0 k l0 a1 a2 a3 true)) = some (r1, r2) := H
  have A6 := Aside0.mk A60
  clear A60
  by_cases c7 : t278 = true
  ·
   subst c7
   have H1 : ((spec_l3No.f a1).bind fun t279 => (if t279 = true then ((spec_l3No.f a2).bind fun t280 => (if t280 = true then ((spec_AmountOk.f a3).bind fun t281 => (spec_BalPut.j0 k l0 a1 a2 a3 (!t281))) else (spec_BalPut.j0 k l0 a1 a2 a3 true))) else (spec_BalPut.j0 k l0 a1 a2 a3 true))) = some (r1, r2) := by rw [if_pos rfl] at H; exact H
   clear H
   have H := H1
   clear H1
   replace H := Option.bind_eq_some_iff.mp H
   obtain ⟨t279, A80, H⟩ := H
   replace H : (if t279 = true then ((spec_l3No.f a2).bind fun t280 => (if t280 = true then ((spec_AmountOk.f a3).bind fun t281 => (spec_BalPut.j0 k l0 a1 a2 a3 (!t281))) else (spec_BalPut.j0 k l0 a1 a2 a3 true))) else (spec_BalPut.j0 k l0 a1 a2 a3 true)) = some (r1, r2) := H
   have A8 := Aside0.mk A80
   clear A80
   by_cases c9 : t279 = true
   ·
    subst c9
    have H1 : ((spec_l3No.f a2).bind fun t280 => (if t280 = true then ((spec_AmountOk.f a3).bind fun t281 => (spec_BalPut.j0 k l0 a1 a2 a3 (!t281))) else (spec_BalPut.j0 k l0 a1 a2 a3 true))) = some (r1, r2) := by rw [if_pos rfl] at H; exact H
    clear H
    have H := H1
    clear H1
    replace H := Option.bind_eq_some_iff.mp H
    obtain ⟨t280, A100, H⟩ := H
    replace H : (if t280 = true then ((spec_AmountOk.f a3).bind fun t281 => (spec_BalPut.j0 k l0 a1 a2 a3 (!t281))) else (spec_BalPut.j0 k l0 a1 a2 a3 true)) = some (r1, r2) := H
    have A10 := Aside0.mk A100
    clear A100
    by_cases c11 : t280 = true
    ·
     subst c11
     have H1 : ((spec_AmountOk.f a3).bind fun t281 => (spec_BalPut.j0 k l0 a1 a2 a3 (!t281))) = some (r1, r2) := by rw [if_pos rfl] at H; exact H
     clear H
     have H := H1
     clear H1
     replace H := Option.bind_eq_some_iff.mp H
     obtain ⟨t281, A120, H⟩ := H
     replace H : (spec_BalPut.j0 k l0 a1 a2 a3 (!t281)) = some (r1, r2) := H
     have A12 := Aside0.mk A120
     clear A120
     have H' := Aside0.mk H
     clear H
     go_wp2_with (first | ((with_reducible refine gate_callee (f := 13) rfl ?_); refine goesL_ (some 12) rfl rfl Try.func13 (by kernel_rfl) rfl #[.slice A0 l0.length c0] rfl (by (try simp only [List.map_toArray, List.map_cons, List.map_nil]); first | done | rfl | (simp only [List.length_drop, List.length_take]; rfl)) ?_; (with_reducible refine (spec_BalsOk.calls k _ _ l0 true _ ?side1 ?side2 A6.out).mono ?_); (case side1 => repeat (first | exact (Kd.C_below HR0.out HB.out) | (with_reducible refine Kd.C_alloc ?_ _) | (with_reducible refine Kd.C_drewN ?_ _) | (with_reducible refine Kd.C_drew ?_))); (case side2 => exact HC0.out); rintro e w13 ⟨rfl, hb⟩; refine ⟨_, rfl, ?_⟩; have n0_ := Aside0.mk (below_step (bb_) hb); clear HB; have HB := n0_; clear n0_; (try clear hb); (try clear hb2); (try clear hk); (try clear hi)) | (go_at_call 41; (with_reducible refine (spec_l3No.calls a1 true _ A8.out).mono ?_); rintro e w' ⟨rfl, ⟨nd, rfl⟩⟩) | (go_at_call 41; (with_reducible refine (spec_l3No.calls a2 true _ A10.out).mono ?_); rintro e w' ⟨rfl, ⟨nd, rfl⟩⟩) | (go_at_call 42; (with_reducible refine (spec_AmountOk.calls a3 t281 _ A12.out).mono ?_); rintro e w' ⟨rfl, ⟨nd, rfl⟩⟩))
     go_meet
     case rel => exact ⟨_, (!t281), (by first | rfl | (simp; done) | (simp [*]; done)), H', ⟨by first | omega | exact Nat.le_refl _⟩, ⟨bb_⟩⟩
    ·
     replace c11 := Bool.eq_false_iff.mpr c11
     subst c11
     have H1 : (spec_BalPut.j0 k l0 a1 a2 a3 true) = some (r1, r2) := by rw [if_neg (show ¬ (false = true) by decide)] at H; exact H
     clear H
     have H := H1
     clear H1
     have H' := Aside0.mk H
     clear H
     go_wp2_with (first | ((with_reducible refine gate_callee (f := 13) rfl ?_); refine goesL_ (some 12) rfl rfl Try.func13 (by kernel_rfl) rfl #[.slice A0 l0.length c0] rfl (by (try simp only [List.map_toArray, List.map_cons, List.map_nil]); first | done | rfl | (simp only [List.length_drop, List.length_take]; rfl)) ?_; (with_reducible refine (spec_BalsOk.calls k _ _ l0 true _ ?side1 ?side2 A6.out).mono ?_); (case side1 => repeat (first | exact (Kd.C_below HR0.out HB.out) | (with_reducible refine Kd.C_alloc ?_ _) | (with_reducible refine Kd.C_drewN ?_ _) | (with_reducible refine Kd.C_drew ?_))); (case side2 => exact HC0.out); rintro e w14 ⟨rfl, hb⟩; refine ⟨_, rfl, ?_⟩; have n0_ := Aside0.mk (below_step (bb_) hb); clear HB; have HB := n0_; clear n0_; (try clear hb); (try clear hb2); (try clear hk); (try clear hi)) | (go_at_call 41; (with_reducible refine (spec_l3No.calls a1 true _ A8.out).mono ?_); rintro e w' ⟨rfl, ⟨nd, rfl⟩⟩) | (go_at_call 41; (with_reducible refine (spec_l3No.calls a2 false _ A10.out).mono ?_); rintro e w' ⟨rfl, ⟨nd, rfl⟩⟩))
     go_meet
     case rel => exact ⟨_, (true), (by first | rfl | (simp; done) | (simp [*]; done)), H', ⟨by first | omega | exact Nat.le_refl _⟩, ⟨bb_⟩⟩
   ·
    replace c9 := Bool.eq_false_iff.mpr c9
    subst c9
    have H1 : (spec_BalPut.j0 k l0 a1 a2 a3 true) = some (r1, r2) := by rw [if_neg (show ¬ (false = true) by decide)] at H; exact H
    clear H
    have H := H1
    clear H1
    have H' := Aside0.mk H
    clear H
    go_wp2_with (first | ((with_reducible refine gate_callee (f := 13) rfl ?_); refine goesL_ (some 12) rfl rfl Try.func13 (by kernel_rfl) rfl #[.slice A0 l0.length c0] rfl (by (try simp only [List.map_toArray, List.map_cons, List.map_nil]); first | done | rfl | (simp only [List.length_drop, List.length_take]; rfl)) ?_; (with_reducible refine (spec_BalsOk.calls k _ _ l0 true _ ?side1 ?side2 A6.out).mono ?_); (case side1 => repeat (first | exact (Kd.C_below HR0.out HB.out) | (with_reducible refine Kd.C_alloc ?_ _) | (with_reducible refine Kd.C_drewN ?_ _) | (with_reducible refine Kd.C_drew ?_))); (case side2 => exact HC0.out); rintro e w15 ⟨rfl, hb⟩; refine ⟨_, rfl, ?_⟩; have n0_ := Aside0.mk (below_step (bb_) hb); clear HB; have HB := n0_; clear n0_; (try clear hb); (try clear hb2); (try clear hk); (try clear hi)) | (go_at_call 41; (with_reducible refine (spec_l3No.calls a1 false _ A8.out).mono ?_); rintro e w' ⟨rfl, ⟨nd, rfl⟩⟩))
    go_meet
    case rel => exact ⟨_, (true), (by first | rfl | (simp; done) | (simp [*]; done)), H', ⟨by first | omega | exact Nat.le_refl _⟩, ⟨bb_⟩⟩
  ·
   replace c7 := Bool.eq_false_iff.mpr c7
   subst c7
   have H1 : (spec_BalPut.j0 k l0 a1 a2 a3 true) = some (r1, r2) := by rw [if_neg (show ¬ (false = true) by decide)] at H; exact H
   clear H
   have H := H1
   clear H1
   have H' := Aside0.mk H
   clear H
   go_wp2_with (first | ((with_reducible refine gate_callee (f := 13) rfl ?_); refine goesL_ (some 12) rfl rfl Try.func13 (by kernel_rfl) rfl #[.slice A0 l0.length c0] rfl (by (try simp only [List.map_toArray, List.map_cons, List.map_nil]); first | done | rfl | (simp only [List.length_drop, List.length_take]; rfl)) ?_; (with_reducible refine (spec_BalsOk.calls k _ _ l0 false _ ?side1 ?side2 A6.out).mono ?_); (case side1 => repeat (first | exact (Kd.C_below HR0.out HB.out) | (with_reducible refine Kd.C_alloc ?_ _) | (with_reducible refine Kd.C_drewN ?_ _) | (with_reducible refine Kd.C_drew ?_))); (case side2 => exact HC0.out); rintro e w16 ⟨rfl, hb⟩; refine ⟨_, rfl, ?_⟩; have n0_ := Aside0.mk (below_step (bb_) hb); clear HB; have HB := n0_; clear n0_; (try clear hb); (try clear hb2); (try clear hk); (try clear hi)))
   go_meet
   case rel => exact ⟨_, (true), (by first | rfl | (simp; done) | (simp [*]; done)), H', ⟨by first | omega | exact Nat.le_refl _⟩, ⟨bb_⟩⟩
 case rest =>
  clear HC5
  try clear c1
  try clear c2
  try clear p2
  try clear c7
  try clear c9
  try clear c11
  try clear c13
  obtain ⟨kq, x28_4, rfl, HA, HJ4, HB⟩ := hcut
  cases kq with
  | zero => exact absurd HA.out (by simp [spec_BalPut.j0])
  | succ kj4 =>
   have H := HA.out
   clear HA
   simp only [spec_BalPut.j0] at H
   by_cases c17 : x28_4 = true
   ·
    subst c17
    have H1 : (some ((([] : List (S58))), false)) = some (r1, r2) := by rw [if_pos rfl] at H; exact H
    clear H
    have H := H1
    clear H1
    obtain ⟨y282, hy282⟩ : ∃ y_ : List (S58), y_ = (([] : List (S58))) := ⟨_, rfl⟩
    replace H : (some (y282, false)) = some (r1, r2) := by first | (rw [hy282]; with_reducible exact H) | (have H2_ := (Option.bind_some _ _).symm.trans H; rw [hy282]; with_reducible exact H2_) | (have H2_ := (Option.bind_some _ _).symm.trans H; with_reducible exact H2_) | with_reducible exact H | (rw [hy282]; exact H) | exact H
    have Ny282 := Aside0.mk hy282
    clear hy282
    simp only [Option.some.injEq, Prod.mk.injEq] at H
    obtain ⟨rfl, rfl⟩ := H
    go_wp2_with (first | ((with_reducible refine gate_dst (N := 29) rfl ?_); refine Kd.R_lit k58 _ 58 ?hg (N := 29) ?hd (xs := ([] : List (S58))) (inner := []) (ok := fun _ => True) (okp := fun _ => True) ?hr ?hp (fun _ hk => hk) trivial (Below.refl _ _) (Nat.le_refl _) (by simp) ?_; (case hd => rfl); (case hg => rfl); (case hr => first | (go_simp; done) | (go_simp; rfl)); (case hp => exact (Reps.none _ _)); intro v283 w18 ho19 hb hg_ hnew_; clear hg_ hnew_; (first | rw [← Ny282.out] at ho19 | (simp only [Int.reduceToNat] at ho19; rw [← Ny282.out] at ho19)); have n0_ := Aside0.mk (Kd.R_lower ho19 (below_size (bb_))); have n1_ := Aside0.mk (below_step (bb_) hb); clear HB; have HO284 := n0_; have HB := n1_; clear n0_ n1_; clear hb ho19))
    go_ret2
    exact ⟨_, by first | rfl | (simp [errW_none, errW_some] <;> rfl) | (simp [*, errW_none, errW_some] <;> rfl), by (with_reducible repeat (first | apply Kd.R_alloc | apply Kd.R_drewN | apply Kd.R_drew)); exact HO284.out, bb_⟩
   ·
    replace c17 := Bool.eq_false_iff.mpr c17
    subst c17
    have H1 : ((spec_l4Put.f kj4 l0 a1 a2 a3).bind fun t285 => ((spec_BalsOk.f kj4 t285).bind fun t288 => (if t288 = true then (some (t285, true)) else (some ((([] : List (S58))), false))))) = some (r1, r2) := by rw [if_neg (show ¬ (false = true) by decide)] at H; exact H
    clear H
    have H := H1
    clear H1
    replace H := Option.bind_eq_some_iff.mp H
    obtain ⟨t285, A200, H⟩ := H
    replace H : ((spec_BalsOk.f kj4 t285).bind fun t288 => (if t288 = true then (some (t285, true)) else (some ((([] : List (S58))), false)))) = some (r1, r2) := H
    have A20 := Aside0.mk A200
    clear A200
    replace H := Option.bind_eq_some_iff.mp H
    obtain ⟨t288, A210, H⟩ := H
    replace H : (if t288 = true then (some (t285, true)) else (some ((([] : List (S58))), false))) = some (r1, r2) := H
    have A21 := Aside0.mk A210
    clear A210
    by_cases c22 : t288 = true
    ·
     subst c22
     have H1 : (some (t285, true)) = some (r1, r2) := by rw [if_pos rfl] at H; exact H
     clear H
     have H := H1
     clear H1
     simp only [Option.some.injEq, Prod.mk.injEq] at H
     obtain ⟨rfl, rfl⟩ := H
     go_wp2_with (first | ((with_reducible refine gate_callee (f := 58) rfl ?_); refine goesL_ (some 34) rfl rfl Try.func58 (by kernel_rfl) rfl #[.slice A0 l0.length c0, .int .i64 a1, .int .i64 a2, .int .i64 a3] rfl (by (try simp only [List.map_toArray, List.map_cons, List.map_nil]); first | done | rfl | (simp only [List.length_drop, List.length_take]; rfl)) ?_; (with_reducible refine (spec_l4Put.calls kj4 _ _ l0 a1 a2 a3 t285 _ ?side1 ?side2 A20.out).mono ?_); (case side1 => repeat (first | exact (Kd.C_below HR0.out HB.out) | (with_reducible refine Kd.C_alloc ?_ _) | (with_reducible refine Kd.C_drewN ?_ _) | (with_reducible refine Kd.C_drew ?_))); (case side2 => exact HC0.out); rintro e w23 ⟨v286, rfl, ho0, hb⟩; refine ⟨_, rfl, ?_⟩; have n0_ := Aside0.mk (Kd.R_lower ho0 (below_size (bb_))); have n1_ := Aside0.mk (below_step (bb_) hb); clear HB; have HO287 := n0_; have HB := n1_; clear n0_ n1_; (try clear hb); (try clear hb2); (try clear hk); (try clear hi); (try clear ho0); obtain ⟨Ao24, co24, eo24⟩ := Kd.R_slice HO287.out; subst eo24) | ((with_reducible refine gate_callee (f := 13) rfl ?_); refine goesL_ (some 36) rfl rfl Try.func13 (by kernel_rfl) rfl #[.slice Ao24 t285.length co24] rfl (by (try simp only [List.map_toArray, List.map_cons, List.map_nil]); first | done | rfl | (simp only [List.length_drop, List.length_take]; rfl)) ?_; (with_reducible refine (spec_BalsOk.calls kj4 _ _ t285 true _ ?side1 ?side2 A21.out).mono ?_); (case side1 => repeat (first | exact (Kd.R_reads' HO287.out).2.2 | (with_reducible refine Kd.C_alloc ?_ _) | (with_reducible refine Kd.C_drewN ?_ _) | (with_reducible refine Kd.C_drew ?_))); (case side2 => exact (Kd.R_reads' HO287.out).2.1); rintro e w25 ⟨rfl, hb⟩; refine ⟨_, rfl, ?_⟩; have n0_ := Aside0.mk (Kd.R_below (by (with_reducible repeat (first | apply Kd.R_alloc | apply Kd.R_drewN | apply Kd.R_drew)); exact HO287.out) hb); have n1_ := Aside0.mk (below_step (bb_) hb); clear HO287; clear HB; have HO287 := n0_; have HB := n1_; clear n0_ n1_; (try clear hb); (try clear hb2); (try clear hk); (try clear hi)))
     go_ret2
     exact ⟨_, by first | rfl | (simp [errW_none, errW_some] <;> rfl) | (simp [*, errW_none, errW_some] <;> rfl), by (with_reducible repeat (first | apply Kd.R_alloc | apply Kd.R_drewN | apply Kd.R_drew)); exact HO287.out, bb_⟩
    ·
     replace c22 := Bool.eq_false_iff.mpr c22
     subst c22
     have H1 : (some ((([] : List (S58))), false)) = some (r1, r2) := by rw [if_neg (show ¬ (false = true) by decide)] at H; exact H
     clear H
     have H := H1
     clear H1
     obtain ⟨y289, hy289⟩ : ∃ y_ : List (S58), y_ = (([] : List (S58))) := ⟨_, rfl⟩
     replace H : (some (y289, false)) = some (r1, r2) := by first | (rw [hy289]; with_reducible exact H) | (have H2_ := (Option.bind_some _ _).symm.trans H; rw [hy289]; with_reducible exact H2_) | (have H2_ := (Option.bind_some _ _).symm.trans H; with_reducible exact H2_) | with_reducible exact H | (rw [hy289]; exact H) | exact H
     have Ny289 := Aside0.mk hy289
     clear hy289
     simp only [Option.some.injEq, Prod.mk.injEq] at H
     obtain ⟨rfl, rfl⟩ := H
     go_wp2_with (first | ((with_reducible refine gate_callee (f := 58) rfl ?_); refine goesL_ (some 34) rfl rfl Try.func58 (by kernel_rfl) rfl #[.slice A0 l0.length c0, .int .i64 a1, .int .i64 a2, .int .i64 a3] rfl (by (try simp only [List.map_toArray, List.map_cons, List.map_nil]); first | done | rfl | (simp only [List.length_drop, List.length_take]; rfl)) ?_; (with_reducible refine (spec_l4Put.calls kj4 _ _ l0 a1 a2 a3 t285 _ ?side1 ?side2 A20.out).mono ?_); (case side1 => repeat (first | exact (Kd.C_below HR0.out HB.out) | (with_reducible refine Kd.C_alloc ?_ _) | (with_reducible refine Kd.C_drewN ?_ _) | (with_reducible refine Kd.C_drew ?_))); (case side2 => exact HC0.out); rintro e w26 ⟨v286, rfl, ho0, hb⟩; refine ⟨_, rfl, ?_⟩; have n0_ := Aside0.mk (Kd.R_lower ho0 (below_size (bb_))); have n1_ := Aside0.mk (below_step (bb_) hb); clear HB; have HO287 := n0_; have HB := n1_; clear n0_ n1_; (try clear hb); (try clear hb2); (try clear hk); (try clear hi); (try clear ho0); obtain ⟨Ao27, co27, eo27⟩ := Kd.R_slice HO287.out; subst eo27) | ((with_reducible refine gate_callee (f := 13) rfl ?_); refine goesL_ (some 36) rfl rfl Try.func13 (by kernel_rfl) rfl #[.slice Ao27 t285.length co27] rfl (by (try simp only [List.map_toArray, List.map_cons, List.map_nil]); first | done | rfl | (simp only [List.length_drop, List.length_take]; rfl)) ?_; (with_reducible refine (spec_BalsOk.calls kj4 _ _ t285 false _ ?side1 ?side2 A21.out).mono ?_); (case side1 => repeat (first | exact (Kd.R_reads' HO287.out).2.2 | (with_reducible refine Kd.C_alloc ?_ _) | (with_reducible refine Kd.C_drewN ?_ _) | (with_reducible refine Kd.C_drew ?_))); (case side2 => exact (Kd.R_reads' HO287.out).2.1); rintro e w28 ⟨rfl, hb⟩; refine ⟨_, rfl, ?_⟩; have n0_ := Aside0.mk (Kd.R_below (by (with_reducible repeat (first | apply Kd.R_alloc | apply Kd.R_drewN | apply Kd.R_drew)); exact HO287.out) hb); have n1_ := Aside0.mk (below_step (bb_) hb); clear HO287; clear HB; have HO287 := n0_; have HB := n1_; clear n0_ n1_; (try clear hb); (try clear hb2); (try clear hk); (try clear hi)) | ((with_reducible refine gate_dst (N := 38) rfl ?_); refine Kd.R_lit k58 _ 58 ?hg (N := 38) ?hd (xs := ([] : List (S58))) (inner := []) (ok := fun _ => True) (okp := fun _ => True) ?hr ?hp (fun _ hk => hk) trivial (Below.refl _ _) (Nat.le_refl _) (by simp) ?_; (case hd => rfl); (case hg => rfl); (case hr => first | (go_simp; done) | (go_simp; rfl)); (case hp => exact (Reps.none _ _)); intro v290 w29 ho30 hb hg_ hnew_; clear hg_ hnew_; (first | rw [← Ny289.out] at ho30 | (simp only [Int.reduceToNat] at ho30; rw [← Ny289.out] at ho30)); have n0_ := Aside0.mk (Kd.R_elder' (by (with_reducible repeat (first | apply Kd.R_alloc | apply Kd.R_drewN | apply Kd.R_drew)); exact HO287.out) (Kd.R_base ho30) hb); have n1_ := Aside0.mk (Kd.R_lower (Kd.R_new' ho30 (Kd.R_lt (by (with_reducible repeat (first | apply Kd.R_alloc | apply Kd.R_drewN | apply Kd.R_drew)); exact HO287.out))) (below_size (bb_))); have n2_ := Aside0.mk (below_step (bb_) hb); clear HO287; clear HB; have HO287 := n0_; have HO291 := n1_; have HB := n2_; clear n0_ n1_ n2_; clear hb ho30))
     go_ret2
     exact ⟨_, by first | rfl | (simp [errW_none, errW_some] <;> rfl) | (simp [*, errW_none, errW_some] <;> rfl), by (with_reducible repeat (first | apply Kd.R_alloc | apply Kd.R_drewN | apply Kd.R_drew)); exact Kd.R_mono HO291.out (fun _ hk => trivial), bb_⟩
def impl_Bal_62.f (l0 : List (S58)) : Option ((List (S58))) := (some (([] : List (S58)) : List (S58))).bind fun y292 => (if y292.length + l0.length < 5864062014805 then (some (y292 ++ l0)) else (none))
set_option maxHeartbeats 8000000 in
set_option maxRecDepth 100000 in
theorem impl_Bal_62.calls (A0 : Option Addr) (c0 : Nat) (l0 : List (S58)) (r : List (S58)) (w : World) (hr0 : Kd.C k58 w A0 l0.length l0) (hc0 : l0.length ≤ c0) (h : impl_Bal_62.f l0 = some r) :
 Calls Try.prog 62 #[.slice A0 l0.length c0] w fun e w' => ∃ v0_ : Value, e = .returned (v0_) ∧ Kd.R k58 58 w' w.heap.size (fun _ => True) v0_ r ∧ Below w.heap.size w w' := by
 have HR0 := Aside0.mk hr0
 have HC0 := Aside0.mk hc0
 clear hr0 hc0
 have HB := Aside0.mk (Below.refl w.heap.size w)
 have H : ((some (([] : List (S58)) : List (S58))).bind fun y292 => (if y292.length + l0.length < 5864062014805 then (some (y292 ++ l0)) else (none))) = some r := h
 clear h
 obtain ⟨y292, hy292⟩ : ∃ y_ : List (S58), y_ = (([] : List (S58))) := ⟨_, rfl⟩
 replace H : (if y292.length + l0.length < 5864062014805 then (some (y292 ++ l0)) else (none)) = some r := by first | (rw [hy292]; with_reducible exact H) | (have H2_ := (Option.bind_some _ _).symm.trans H; rw [hy292]; with_reducible exact H2_) | (have H2_ := (Option.bind_some _ _).symm.trans H; with_reducible exact H2_) | with_reducible exact H | (rw [hy292]; exact H) | exact H
 have Ny292 := Aside0.mk hy292
 clear hy292
 by_cases c2 : y292.length + l0.length < 5864062014805
 ·
  rw [if_pos c2] at H
  have LMc2 := Aside0.mk c2
  clear c2
  obtain ⟨y295, hy295⟩ : ∃ y_ : List (S58), y_ = (y292 ++ l0) := ⟨_, rfl⟩
  replace H : (some y295) = some r := by first | (rw [hy295]; with_reducible exact H) | (have H2_ := (Option.bind_some _ _).symm.trans H; rw [hy295]; with_reducible exact H2_) | (have H2_ := (Option.bind_some _ _).symm.trans H; with_reducible exact H2_) | with_reducible exact H | (rw [hy295]; exact H) | exact H
  have Ny295 := Aside0.mk hy295
  clear hy295
  obtain rfl := Option.some.inj H
  have q_ : ∀ (W : World) (a : Option Addr) (n c n' c' : Nat), (binOp .eql 25 (.slice a n c) (.slice none n' c')).run Try.prog W = .ok (.bool a.isNone) W := fun W a n c n' c' => Lib.run_eql_slice_nil W _ _ a n c n' c' Try.underlying25
  cases A0 with
  | none =>
   have e0_ : l0 = [] := by
    have h_ : ReadsRow _ _ _ _ _ _ := HR0.out
    unfold ReadsRow at h_
    obtain ⟨h1_, _, h2_⟩ := h_
    apply List.eq_nil_of_length_eq_zero
    apply Classical.byContradiction
    intro hn_
    obtain ⟨ad_, e_, _⟩ := h2_ (by omega)
    cases e_
   have Ny0_ : y295 = [] := by rw [Ny295.out, Ny292.out, e0_]; rfl
   subst Ny0_
   go_enter Try.func62, Try.ntmps62
   go_wp2
   go_ret
   exact ⟨_, by first | rfl | (simp; done) | (simp [*]; done), Kd.R_nil _ _ _ _ _, HB.out⟩
  | some ad0 =>
   go_enter Try.func62, Try.ntmps62
   go_wp2_with (first | ((with_reducible refine gate_dst (N := 5) rfl ?_); refine Kd.R_lit k58 _ 58 ?hg (N := 5) ?hd (xs := ([] : List (S58))) (inner := []) (ok := fun _ => True) (okp := fun _ => True) ?hr ?hp (fun _ hk => hk) trivial (Below.refl _ _) (Nat.le_refl _) (by simp) ?_; (case hd => rfl); (case hg => rfl); (case hr => first | (go_simp; done) | (go_simp; rfl)); (case hp => exact (Reps.none _ _)); intro v293 w3 ho4 hb hg_ hnew_; clear hg_ hnew_; (first | rw [← Ny292.out] at ho4 | (simp only [Int.reduceToNat] at ho4; rw [← Ny292.out] at ho4)); have n0_ := Aside0.mk (Kd.R_lower ho4 (below_size (bb_))); have n1_ := Aside0.mk (below_step (bb_) hb); clear HB; have HO294 := n0_; have HB := n1_; clear n0_ n1_; clear hb ho4) | ((with_reducible refine gate_builtin (b := .append) (xs := #[.tmp 5, .tmp 6]) rfl ?_); at_builtin; refine Kd.R_append_rows k58 (w0 := w) w.heap.size rfl (.tmp 5) (.tmp 6) 25 58 (.agg #[(.int .i64 0), (.int .i64 0), (.int .i64 0)]) 24 rfl Try.underlying25 info58 rfl (by decide) (by omega) v293 y292 l0 _ _ _ (fun _ => True) (fun _ => False) rfl rfl ?aO ?aR (fun _ _ h => h) (fun _ h => h.elim) ?aF ?aB ?aS ?aL ?_; (case aR => repeat (first | exact (Kd.C_below HR0.out HB.out) | (with_reducible refine Kd.C_alloc ?_ _) | (with_reducible refine Kd.C_drewN ?_ _) | (with_reducible refine Kd.C_drew ?_))); (case aB => exact (bb_)); (case aF => exact (fun _ _ => trivial)); (case aO => exact (by (with_reducible repeat (first | apply Kd.R_alloc | apply Kd.R_drewN | apply Kd.R_drew)); exact HO294.out)); (case aS => exact (below_size (bb_))); (case aL => have := LMc2.out; omega); intro v296 w5 ho hb hg hat; rw [← Ny295.out] at ho; have n0_ := Aside0.mk (hb); have n1_ := Aside0.mk (ho); clear HB; clear HO294; have HB := n0_; have HO297 := n1_; clear n0_ n1_; clear ho hb hg hat))
   go_ret
   exact ⟨_, by first | rfl | (simp [errW_none, errW_some] <;> rfl) | (simp [*, errW_none, errW_some] <;> rfl), by (with_reducible repeat (first | apply Kd.R_alloc | apply Kd.R_drewN | apply Kd.R_drew)); exact HO297.out, bb_⟩
 ·
  rw [if_neg c2] at H
  exact absurd H (by simp)
theorem impl_Bal_76.flat : IN.Flat k58 (fun x : S58 => ([.int .i64 x.f0, .int .i64 x.f1, .int .i64 x.f2] : List Value)) := ⟨fun h => k58_openM h, fun w base ok x => k58_mkM w base ok x, fun h => k58_open h⟩
def impl_Bal_76.f (l0 : List (S58)) (a1 a2 : Int) : Option (List (S58)) := if 0 ≤ a1 ∧ a1 < a2 ∧ a2 ≤ (l0.length : Int) ∧ l0.length < 1048577 then some (l0.take a1.toNat ++ l0.drop a2.toNat) else none
theorem impl_Bal_76.zero (w : World) : (zeroValue 58).run Try.prog w = .ok (.agg #[(.int .i64 0), (.int .i64 0), (.int .i64 0)]) w := by
 obtain ⟨i0, hi, hz⟩ := Option.map_eq_some_iff.1 info58
 simp only [Prod.mk.injEq] at hz
 simp [zeroValue, typeInfo, hi, hz.1]
set_option maxHeartbeats 8000000 in
set_option maxRecDepth 100000 in
theorem impl_Bal_76.cut (w W1 W2 : World) (gg n i j co : Nat) (A : Addr) (news : List Value) (hij : i < j) (hj : j ≤ n) (hnc : n ≤ co) (hm : co ≤ 9223372036854775807) (hA : (if co = j then some (⟨gg, 0, none⟩ : Addr) else some ⟨gg, j * 3, none⟩) = some A)
 (s1 : news.length = (n - j) * 3) (hsrc : ∀ t u, news[t]? = some u → w.drew.cell? (A.add t) = some u) (s2 : ∀ u ∈ news, u.oneCell' = true) (s3 : ∀ t, t < news.length → (w.drew.cell? ⟨gg, 0 + i * 3 + t, none⟩).isSome = true ∧ w.drew.frozen? ⟨gg, 0 + i * 3 + t, none⟩ = false)
 (hcl : ∀ ty, (Builtin.clear_ #[25] ty #[.slice (some ⟨gg, (i + (n - j)) * 3, none⟩) (n - (i + (n - j))) (co - (i + (n - j)))]).run Try.prog W1 = .ok (.tuple #[]) W2)
 (hW : W1 = w.drew.setCells gg (0 + i * 3) news) :
 Calls Try.prog 76 #[.slice (some ⟨gg, 0, none⟩) n co, .int .i64 i, .int .i64 j] w fun e w' => e = .returned (.slice (some ⟨gg, 0, none⟩) (i + (n - j)) co) ∧ w' = W2 := by
 have mixed : Try.prog.follows .mixedOrders = true := by kernel_rfl
 have hu58 := Try.underlying58
 obtain ⟨i0, hi0, hz⟩ := Option.map_eq_some_iff.1 info58
 simp only [Prod.mk.injEq] at hz
 have HI := Aside0.mk hi0
 have HZ := Aside0.mk hz.2.1
 have hic : i ≤ co := by omega
 have hjc : j ≤ co := by omega
 have hlt : i < j := hij
 have e1 : ((i : Int) == (j : Int)) = false := by
  rw [beq_eq_false_iff_ne]
  omega
 have X1 := Aside0.mk s1
 have X2 := Aside0.mk s2
 have X3 := Aside0.mk s3
 have X4 := Aside0.mk hsrc
 have HW := Aside0.mk hW
 have hb2 : ¬ (co = i + (n - j)) := by omega
 clear s1 s2 s3 hsrc hW hi0 hz
 go_enter Try.func76, Try.ntmps76
 go_wp2_with fail
 go_region_law_o (refine step_append_room rfl (.tmp 22) (.tmp 25) 25 rfl 58 i0 3 Try.underlying25 HI.out HZ.out gg 0 i co (by simp [Act.eval, Act.put]) A (n - j) (co - j) news (by simp [Act.eval, Act.put]) X1.out X4.out X2.out (by omega) X3.out ?_; rw [← HW.out])
 go_wp2
 go_ret
 exact ⟨rfl, rfl⟩
set_option maxHeartbeats 2000000 in
theorem impl_Bal_76.calls (P0_ : Nat → Prop) (u9000_ : Value) (l0 : List (S58)) (a1 a2 : Int) (r : List (S58)) (w0 w : World) (hB : Below w0.heap.size w0 w) (ho0 : Kd.R k58 58 w w0.heap.size P0_ u9000_ l0) (h : impl_Bal_76.f l0 a1 a2 = some r) :
 Calls Try.prog 76 #[u9000_, .int .i64 a1, .int .i64 a2] w fun e w' => ∃ v0_ : Value, e = .returned (v0_) ∧ Kd.R k58 58 w' w0.heap.size (fun k_ => (P0_ k_ ∨ w.heap.size ≤ k_)) v0_ r ∧ Below w0.heap.size w0 w' ∧ Kept w w' (fun k_ => P0_ k_) := by
 unfold impl_Bal_76.f at h
 by_cases hg : 0 ≤ a1 ∧ a1 < a2 ∧ a2 ≤ (l0.length : Int) ∧ l0.length < 1048577
 ·
  rw [if_pos hg] at h
  obtain rfl := Option.some.inj h
  clear h
  obtain ⟨g1, g2, g3, g4⟩ := hg
  obtain ⟨i, rfl⟩ := Int.eq_ofNat_of_zero_le g1
  obtain ⟨j, rfl⟩ := Int.eq_ofNat_of_zero_le (show 0 ≤ a2 by omega)
  have g5 : i < j := by omega
  have g6 : j ≤ l0.length := by omega
  rw [Int.toNat_natCast, Int.toNat_natCast]
  obtain ⟨hv, hv2⟩ | ⟨gg, co, rfl⟩ := IN.R_cases ho0
  ·
   subst hv2
   exact absurd g6 (by simp; omega)
  obtain ⟨n1, n2, n3, n4, n5, cur, hc, hcs, S, hL⟩ := IN.R_raw impl_Bal_76.flat ho0
  have hlen : (l0.take i ++ l0.drop j).length = i + (l0.length - j) := by simp; omega
  have zl : (Builtin.zeroCells (Value.agg #[Value.int .i64 0, Value.int .i64 0, Value.int .i64 0]).cells (l0.length - (i + (l0.length - j)))).toList.length = (l0.length - (i + (l0.length - j))) * 3 := by rw [DL.zeroCells_len]; rfl
  obtain ⟨W1, hW1⟩ : ∃ W1, W1 = w.drew.setCells gg (i * 3) ((l0.drop j).flatMap (fun x : S58 => ([.int .i64 x.f0, .int .i64 x.f1, .int .i64 x.f2] : List Value))) := ⟨_, rfl⟩
  obtain ⟨W2, hW2⟩ : ∃ W2, W2 = W1.setCells gg ((i + (l0.length - j)) * 3) (Builtin.zeroCells (Value.agg #[Value.int .i64 0, Value.int .i64 0, Value.int .i64 0]).cells (l0.length - (i + (l0.length - j)))).toList := ⟨_, rfl⟩
  obtain ⟨s1, s2, s3, s4, s5, r3, cur2, S2, r4, r5, r6⟩ := DL.delete_row impl_Bal_76.flat (k := 3) rfl (W := w.drew) hc hcs hL (Nat.le_of_lt g5) g6 zl hW1 hW2
  have rg : w.grownBy W2 (some gg) := ⟨r3.os, r3.tape, r3.output, r3.size, r3.block⟩
  have hcl := fun ty => DL.run_clear_k (P := Try.prog) W1 25 58 ty (.agg #[Value.int .i64 0, Value.int .i64 0, Value.int .i64 0]) Try.underlying25 impl_Bal_76.zero 3 rfl (by intro v hv; simp [Value.cells] at hv; simp [hv, Value.oneCell']) gg ((i + (l0.length - j)) * 3) (l0.length - (i + (l0.length - j))) (co - (i + (l0.length - j))) (fun t ht => (s5 t ht).1) (fun t ht => (s5 t ht).2)
  rw [← hW2] at hcl
  obtain ⟨A, hA, hsrc⟩ : ∃ A : Addr, (if co = j then some (⟨gg, 0, none⟩ : Addr) else some ⟨gg, j * 3, none⟩) = some A ∧ ∀ t u, ((l0.drop j).flatMap (fun x : S58 => ([.int .i64 x.f0, .int .i64 x.f1, .int .i64 x.f2] : List Value)))[t]? = some u → w.drew.cell? (A.add t) = some u := by
   by_cases hcj : co = j
   ·
    refine ⟨⟨gg, 0, none⟩, by rw [if_pos hcj], fun t u hu => ?_⟩
    have := (List.getElem?_eq_some_iff.1 hu).1
    rw [s1] at this
    omega
   ·
    exact ⟨⟨gg, j * 3, none⟩, by rw [if_neg hcj], s3⟩
  refine (impl_Bal_76.cut w W1 W2 gg l0.length i j co A _ g5 g6 n2 (by have := n3; unfold maxLen at this; exact this) hA s1 hsrc s2 s4 hcl (by rw [hW1, Nat.zero_add])).mono ?_
  rintro e w' ⟨rfl, rfl⟩
  refine ⟨_, rfl, ?_, hB.grown rg (below_size hB) (fun k hk => by cases hk; exact n4), IN.kept_grown rg (fun k hk => by cases hk; exact n5)⟩
  have hR := IN.R_of_raw impl_Bal_76.flat (ok := fun k_ => P0_ k_ ∨ w.heap.size ≤ k_) n4 (.inl n5) r4 (xs := l0.take i ++ l0.drop j) (by omega) n3 (by rw [r5]; exact hcs) r6
  rw [hlen] at hR
  exact hR
 ·
  rw [if_neg hg] at h
  cases h
end Go.Proofs.Ytpcjpjjkaplebaa.P
namespace Go.Proofs.Ytpcjpjjkaplebaa.P
open Go.RowKit Go.Proofs.YtpcjpjjkaplebaaW.PrintWords Go.Proofs.YtpcjpjjkaplebaaW.PrintLast Go.Proofs.YtpcjpjjkaplebaaW.PrintMore
attribute [local go_sem] max2_int min2_int max_two min_two max_three min_three max_four min_four   -- for this text's walks alone
set_option linter.unusedVariables false
set_option linter.unusedSimpArgs false
theorem impl_Bal_77.flat : IN.Flat k58 (fun x : S58 => ([.int .i64 x.f0, .int .i64 x.f1, .int .i64 x.f2] : List Value)) := ⟨fun h => k58_openM h, fun w base ok x => k58_mkM w base ok x, fun h => k58_open h⟩
def impl_Bal_77.f (l0 : List (S58)) (a1 : Int) (l2 : List (S58)) : Option (List (S58)) := if 0 ≤ a1 ∧ a1 ≤ (l0.length : Int) ∧ l2.length = 1 ∧ l0.length < 1048577 then some (l0.take a1.toNat ++ l2 ++ l0.drop a1.toNat) else none
theorem impl_Bal_77.ov_size (W : World) : (Go.sizeOf 58).run Try.prog W = .ok 3 W := by
 obtain ⟨i0, hi, hz⟩ := Option.map_eq_some_iff.1 info58
 simp only [Prod.mk.injEq] at hz
 simp [Go.sizeOf, typeInfo, hi, hz.2.1]
theorem impl_Bal_77.ov_find : Extern.find Try.f82 = some (Extern.SlicesOverlaps.overlaps #[25, 25] #[4]) := by kernel_rfl
theorem impl_Bal_77.ov_run (args : Array Value) (w : World) : (callFunc 82 args).run Try.prog w = ((Extern.SlicesOverlaps.overlaps #[25, 25] #[4] args).run Try.prog w).andThen fun v w' => .ok (.value v) w' :=
 run_callFunc_extern Try.func82 (by kernel_rfl) (by kernel_rfl) (by kernel_rfl) impl_Bal_77.ov_find args w
theorem impl_Bal_77.ov_apart {w : World} {a b : Addr} {la ca lb cb : Nat} (hne : a.block ≠ b.block) {curv cur : Array Value} (hcv : w.heap[a.block]? = some (.cells curv 58 (0, 0))) (hc : w.heap[b.block]? = some (.cells cur 58 (0, 0))) (h0 : cur.size ≠ 0) (hf : w.frozen? a = false) :
 (callFunc 82 #[.slice (some a) la ca, .slice (some b) lb cb]).run Try.prog w = .ok (.value (.bool false)) w := by
 have h := Lib.run_overlaps_apart w 25 4 58 Try.underlying25 3 impl_Bal_77.ov_size a b la ca lb cb hne 58 58 curv.size cur.size (by simp [World.shape?, hcv]) (by simp [World.shape?, hc]) h0 hf (blk_frozen hcv _)
 rw [impl_Bal_77.ov_run, h]
 rfl
theorem impl_Bal_77.sized : (Try.prog.info? 58).map (·.size) = some 3 := by
 obtain ⟨i0, hi, hz⟩ := Option.map_eq_some_iff.1 info58
 simp only [Prod.mk.injEq] at hz
 rw [hi, Option.map_some, hz.2.1]
set_option maxHeartbeats 8000000 in
set_option maxRecDepth 100000 in
theorem impl_Bal_77.room (w W1 W2 : World) (gg vb n i co cv : Nat) (hi : i < n) (hroom : n + 1 ≤ co) (hn : n < 1048577)
 (hov : ∀ lb cb, (callFunc 82 #[.slice (some ⟨vb, 0, none⟩) 1 cv, .slice (some ⟨gg, (i + 1) * 3, none⟩) lb cb]).run Try.prog w = .ok (.value (.bool false)) w)
 (r1 : ∀ ty dc sc, (Builtin.copy_ #[25, 25] ty #[.slice (some ⟨gg, (i + 1) * 3, none⟩) (n - i) dc, .slice (some ⟨gg, i * 3, none⟩) (n + 1 - i) sc]).run Try.prog w.drew = .ok (goInt ((n - i : Nat) : Int)) W1)
 (r2 : ∀ ty dc sc, (Builtin.copy_ #[25, 25] ty #[.slice (some ⟨gg, i * 3, none⟩) (n + 1 - i) dc, .slice (some ⟨vb, 0, none⟩) 1 sc]).run Try.prog W1 = .ok (goInt 1) W2) :
 Calls Try.prog 77 #[.slice (some ⟨gg, 0, none⟩) n co, .int .i64 i, .slice (some ⟨vb, 0, none⟩) 1 cv] w fun e w' => e = .returned (.slice (some ⟨gg, 0, none⟩) (n + 1) co) ∧ w' = W2 := by
 have mixed : Try.prog.follows .mixedOrders = true := by kernel_rfl
 have hu58 := Try.underlying58
 have e1 : ((i : Int) == (n : Int)) = false := by
  rw [beq_eq_false_iff_ne]
  omega
 have q1 : (0 : Int) ≤ (i : Int) := by omega
 have q2 : (i : Int) ≤ (n : Int) := by omega
 have w1 : wrap64 ((n : Int) + 1) = (n : Int) + 1 := by unfold wrap64; omega
 have e2 : decide ((co : Int) < (n : Int) + 1) = false := decide_eq_false (by omega)
 have hw1 : IntKind.i64.wrap ((i : Int) + 1) = (i : Int) + 1 := by rw [IntKind.wrap_i64]; omega
 have hb1 : (0 : Int) ≤ (i : Int) + 1 := by omega
 have hb0 : (i : Int) + 1 ≤ (n : Int) + 1 := by omega
 have htn : ((i : Int) + 1).toNat = i + 1 := by omega
 have hb2 : ¬ (co = i + 1) := by omega
 have hb3 : (i : Int) ≤ (n : Int) + 1 := by omega
 have hb4 : ¬ (co = i) := by omega
 have hb5 : n + 1 - (i + 1) = n - i := by omega
 have R1 := Aside0.mk r1
 have R2 := Aside0.mk r2
 go_enter Try.func77, Try.ntmps77
 go_wp2_with (simp only [hov])
 go_region_law_o (refine IN.step_copy rfl _ _ 25 25 rfl _ _ (by simp [Act.eval, Act.put]) (by simp [Act.eval, Act.put]) (R1.out _ _ _) ?_)
 go_wp2
 go_ret
 exact ⟨rfl, rfl⟩
set_option maxHeartbeats 8000000 in
set_option maxRecDepth 100000 in
theorem impl_Bal_77.grow (w Wa W1 W2 : World) (gg vb hh n i co cv C : Nat) (hi : i < n) (hroom : co < n + 1) (hnc : n ≤ co) (hC : n + 1 ≤ C) (hn : n < 1048577)
 (r0 : ∀ ty, (Builtin.append_ #[25, 3] ty #[.slice (some ⟨gg, 0, none⟩) i co, .int .i64 ((n + 1 - i : Nat) : Int)]).run Try.prog w = .ok (.slice (some ⟨hh, 0, none⟩) (n + 1) C) Wa)
 (r1 : ∀ ty dc sc, (Builtin.copy_ #[25, 25] ty #[.slice (some ⟨hh, i * 3, none⟩) (n + 1 - i) dc, .slice (some ⟨vb, 0, none⟩) 1 sc]).run Try.prog Wa = .ok (goInt 1) W1)
 (r2 : ∀ ty dc sc, (Builtin.copy_ #[25, 25] ty #[.slice (some ⟨hh, (i + 1) * 3, none⟩) (n - i) dc, .slice (some ⟨gg, i * 3, none⟩) (n - i) sc]).run Try.prog W1.drew = .ok (goInt ((n - i : Nat) : Int)) W2) :
 Calls Try.prog 77 #[.slice (some ⟨gg, 0, none⟩) n co, .int .i64 i, .slice (some ⟨vb, 0, none⟩) 1 cv] w fun e w' => e = .returned (.slice (some ⟨hh, 0, none⟩) (n + 1) C) ∧ w' = W2 := by
 have mixed : Try.prog.follows .mixedOrders = true := by kernel_rfl
 have hu58 := Try.underlying58
 have e1 : ((i : Int) == (n : Int)) = false := by
  rw [beq_eq_false_iff_ne]
  omega
 have q1 : (0 : Int) ≤ (i : Int) := by omega
 have q2 : (i : Int) ≤ (n : Int) := by omega
 have q3 : (i : Int) ≤ (co : Int) := by omega
 have w1 : wrap64 ((n : Int) + 1) = (n : Int) + 1 := by unfold wrap64; omega
 have w2 : wrap64 ((n : Int) + 1 - (i : Int)) = ((n + 1 - i : Nat) : Int) := by unfold wrap64; omega
 have w3 : IntKind.i64.wrap ((n : Int) + 1 - (i : Int)) = ((n + 1 - i : Nat) : Int) := by rw [IntKind.wrap_i64]; omega
 have e2 : decide ((co : Int) < (n : Int) + 1) = true := decide_eq_true (by omega)
 have hw1 : IntKind.i64.wrap ((i : Int) + 1) = (i : Int) + 1 := by rw [IntKind.wrap_i64]; omega
 have hb1 : (0 : Int) ≤ (i : Int) + 1 := by omega
 have hb0 : (i : Int) + 1 ≤ (n : Int) + 1 := by omega
 have htn : ((i : Int) + 1).toNat = i + 1 := by omega
 have hb2 : ¬ (C = i + 1) := by omega
 have hb3 : (i : Int) ≤ (n : Int) + 1 := by omega
 have hb4 : ¬ (C = i) := by omega
 have hb6 : ¬ (co = i) := by omega
 have hb5 : n + 1 - (i + 1) = n - i := by omega
 have R0 := Aside0.mk r0
 have R1 := Aside0.mk r1
 have R2 := Aside0.mk r2
 clear r0
 go_enter Try.func77, Try.ntmps77
 go_wp2_with ((with_reducible refine gate_builtin (b := .append) (xs := #[.tmp 34, .tmp 39]) rfl ?_); at_builtin; refine IN.wp_append _ rfl _ _ 25 3 rfl _ _ rfl rfl (R0.out _) ?_)
 go_region_law_o (refine IN.step_copy rfl _ _ 25 25 rfl _ _ (by simp [Act.eval, Act.put]) (by simp [Act.eval, Act.put]) (R2.out _ _ _) ?_)
 go_wp2
 go_ret
 exact ⟨rfl, rfl⟩
set_option maxHeartbeats 8000000 in
set_option maxRecDepth 100000 in
theorem impl_Bal_77.tail (P0_ P1_ : Nat → Prop) (A0 : Option Addr) (c0 : Nat) (l0 : List (S58)) (vb cv : Nat) (x : S58) (w0 w : World) (hB : Below w0.heap.size w0 w) (ho0 : Kd.R k58 58 w w0.heap.size P0_ (.slice A0 l0.length c0) l0) (hc2 : Kd.C k58 w (some ⟨vb, 0, none⟩) 1 [x]) (hl : l0.length < 1048577) :
 Calls Try.prog 77 #[.slice A0 l0.length c0, .int .i64 (l0.length : Int), .slice (some ⟨vb, 0, none⟩) 1 cv] w fun e w' => ∃ v0_ : Value, e = .returned (v0_) ∧ Kd.R k58 58 w' w0.heap.size (fun k_ => ((P0_ k_ ∨ P1_ k_) ∨ w.heap.size ≤ k_)) v0_ (l0 ++ [x]) ∧ Below w0.heap.size w0 w' ∧ Kept w w' (fun k_ => P0_ k_ ∨ P1_ k_) := by
 have hle := (Kd.R_reads' ho0).2.1
 have HO := Aside0.mk (show Kd.R k58 58 w w0.heap.size (fun k_ => ((P0_ k_ ∨ P1_ k_) ∨ w.heap.size ≤ k_)) (.slice A0 l0.length c0) l0 from Kd.R_mono ho0 (fun k_ hk => .inl (.inl hk)))
 have HP := Aside0.mk ho0.1
 have HC2 := Aside0.mk hc2
 have HB := Aside0.mk hB
 have HL := Aside0.mk hl
 clear hB ho0 hc2
 have q1 : (0 : Int) ≤ (l0.length : Int) := by omega
 have q2 : (l0.length : Int) ≤ (c0 : Int) := by omega
 cases A0 with
 | none =>
  go_enter Try.func77, Try.ntmps77
  go_wp2_with ((with_reducible refine gate_builtin (b := .append) (xs := #[.tmp 23, .tmp 24]) rfl ?_); at_builtin; refine Kd.R_append_rows k58 (w0 := w0) w0.heap.size rfl (.tmp 23) (.tmp 24) 25 58 (.agg #[(.int .i64 0), (.int .i64 0), (.int .i64 0)]) 24 rfl Try.underlying25 info58 rfl (by decide) (by omega) _ l0 [x] _ _ _ (fun k_ => ((P0_ k_ ∨ P1_ k_) ∨ w.heap.size ≤ k_)) (fun _ => False) rfl rfl HO.out HC2.out (fun _ _ h => h) (fun _ h => h.elim) (fun _ hk => .inr hk) HB.out (below_size HB.out) (by have := HL.out; omega) ?_; intro v1 w1 ho hb hg hat; have HO1 := Aside0.mk ho; have HB1 := Aside0.mk hb; have HG := Aside0.mk hg; clear ho hb hg hat)
  go_ret
  exact ⟨_, by first | rfl | (simp; done) | (simp [*]; done), HO1.out, HB1.out, IN.kept_grown HG.out (fun k hk => .inl (HP.out k hk))⟩
 | some a0 =>
  by_cases hc : c0 = l0.length
  ·
   go_enter Try.func77, Try.ntmps77
   go_wp2_with ((with_reducible refine gate_builtin (b := .append) (xs := #[.tmp 23, .tmp 24]) rfl ?_); at_builtin; refine Kd.R_append_rows k58 (w0 := w0) w0.heap.size rfl (.tmp 23) (.tmp 24) 25 58 (.agg #[(.int .i64 0), (.int .i64 0), (.int .i64 0)]) 24 rfl Try.underlying25 info58 rfl (by decide) (by omega) _ l0 [x] _ _ _ (fun k_ => ((P0_ k_ ∨ P1_ k_) ∨ w.heap.size ≤ k_)) (fun _ => False) rfl rfl HO.out HC2.out (fun _ _ h => h) (fun _ h => h.elim) (fun _ hk => .inr hk) HB.out (below_size HB.out) (by have := HL.out; omega) ?_; intro v1 w1 ho hb hg hat; have HO1 := Aside0.mk ho; have HB1 := Aside0.mk hb; have HG := Aside0.mk hg; clear ho hb hg hat)
   go_ret
   exact ⟨_, by first | rfl | (simp; done) | (simp [*]; done), HO1.out, HB1.out, IN.kept_grown HG.out (fun k hk => .inl (HP.out k hk))⟩
  ·
   go_enter Try.func77, Try.ntmps77
   go_wp2_with ((with_reducible refine gate_builtin (b := .append) (xs := #[.tmp 23, .tmp 24]) rfl ?_); at_builtin; refine Kd.R_append_rows k58 (w0 := w0) w0.heap.size rfl (.tmp 23) (.tmp 24) 25 58 (.agg #[(.int .i64 0), (.int .i64 0), (.int .i64 0)]) 24 rfl Try.underlying25 info58 rfl (by decide) (by omega) _ l0 [x] _ _ _ (fun k_ => ((P0_ k_ ∨ P1_ k_) ∨ w.heap.size ≤ k_)) (fun _ => False) rfl rfl HO.out HC2.out (fun _ _ h => h) (fun _ h => h.elim) (fun _ hk => .inr hk) HB.out (below_size HB.out) (by have := HL.out; omega) ?_; intro v1 w1 ho hb hg hat; have HO1 := Aside0.mk ho; have HB1 := Aside0.mk hb; have HG := Aside0.mk hg; clear ho hb hg hat)
   go_ret
   exact ⟨_, by first | rfl | (simp; done) | (simp [*]; done), HO1.out, HB1.out, IN.kept_grown HG.out (fun k hk => .inl (HP.out k hk))⟩
set_option maxHeartbeats 2000000 in
theorem impl_Bal_77.calls (P0_ : Nat → Prop) (u9000_ : Value) (l0 : List (S58)) (a1 : Int) (P1_ : Nat → Prop) (u9001_ : Value) (l2 : List (S58)) (r : List (S58)) (w0 w : World) (hB : Below w0.heap.size w0 w) (ho0 : Kd.R k58 58 w w0.heap.size P0_ u9000_ l0) (hs3 : ∀ k_, P0_ k_ → some k_ ≠ u9001_.ownBlock) (ho2 : Kd.R k58 58 w w0.heap.size P1_ u9001_ l2) (hs5 : ∀ k_, P1_ k_ → some k_ ≠ u9000_.ownBlock) (h : impl_Bal_77.f l0 a1 l2 = some r) :
 Calls Try.prog 77 #[u9000_, .int .i64 a1, u9001_] w fun e w' => ∃ v0_ : Value, e = .returned (v0_) ∧ Kd.R k58 58 w' w0.heap.size (fun k_ => ((P0_ k_ ∨ P1_ k_) ∨ w.heap.size ≤ k_)) v0_ r ∧ Below w0.heap.size w0 w' ∧ Kept w w' (fun k_ => P0_ k_ ∨ P1_ k_) := by
 unfold impl_Bal_77.f at h
 by_cases hg : 0 ≤ a1 ∧ a1 ≤ (l0.length : Int) ∧ l2.length = 1 ∧ l0.length < 1048577
 ·
  rw [if_pos hg] at h
  obtain rfl := Option.some.inj h
  clear h
  obtain ⟨g1, g2, g3, g4⟩ := hg
  obtain ⟨i, rfl⟩ := Int.eq_ofNat_of_zero_le g1
  have g5 : i ≤ l0.length := by omega
  rw [Int.toNat_natCast]
  obtain ⟨x, rfl⟩ : ∃ x, l2 = [x] := by
   match l2, g3 with
   | [x], _ => exact ⟨x, rfl⟩
  obtain ⟨hv, hv2⟩ | ⟨vb, cv, rfl⟩ := IN.R_cases ho2
  ·
   cases hv2
  by_cases hin : i = l0.length
  ·
   subst hin
   rw [List.take_length, List.drop_length, List.append_nil]
   obtain ⟨A0, c0, e0⟩ := Kd.R_slice ho0
   subst e0
   exact impl_Bal_77.tail P0_ P1_ A0 c0 l0 vb cv x w0 w hB ho0 (Kd.R_reads' ho2).2.2 g4
  ·
   obtain ⟨hv, hv2⟩ | ⟨gg, co, rfl⟩ := IN.R_cases ho0
   ·
    subst hv2
    exact absurd g5 (by intro g; apply hin; simp at g; simp [g])
   obtain ⟨n1, n2, n3, n4, n5, cur, hc, hcs, S, hL⟩ := IN.R_raw impl_Bal_77.flat ho0
   obtain ⟨m1, m2, m3, m4, m5, curv, hcv, hcvs, Sv, hLv⟩ := IN.R_raw impl_Bal_77.flat ho2
   have hne : vb ≠ gg := fun e_ => hs3 gg n5 (by rw [e_]; simp [Value.ownBlock])
   have hLv' : curv.toList = (fun x : S58 => ([.int .i64 x.f0, .int .i64 x.f1, .int .i64 x.f2] : List Value)) x ++ Sv := by simpa using hLv
   have hlen : (l0.take i ++ [x] ++ l0.drop i).length = l0.length + 1 := by simp; omega
   by_cases hroom : l0.length + 1 ≤ co
   ·
    obtain ⟨W1, hW1⟩ : ∃ W1, W1 = w.drew.setCells gg ((i + 1) * 3) ((l0.drop i).flatMap (fun x : S58 => ([.int .i64 x.f0, .int .i64 x.f1, .int .i64 x.f2] : List Value))) := ⟨_, rfl⟩
    obtain ⟨W2, hW2⟩ : ∃ W2, W2 = W1.setCells gg (i * 3) ((fun x : S58 => ([.int .i64 x.f0, .int .i64 x.f1, .int .i64 x.f2] : List Value)) x) := ⟨_, rfl⟩
    obtain ⟨r1, r2, r3, cur2, S2, r4, r5, r6⟩ := IN.insert_room (P := Try.prog) impl_Bal_77.flat (k := 3) rfl (W := w.drew) (x := x) hc hcs hL g5 hroom hne hcv hLv' 25 58 Try.underlying25 impl_Bal_77.sized hW1 hW2
    have rg : w.grownBy W2 (some gg) := ⟨r3.os, r3.tape, r3.output, r3.size, r3.block⟩
    refine (impl_Bal_77.room w W1 W2 gg vb l0.length i co cv (by omega) hroom g4 (fun lb cb => impl_Bal_77.ov_apart (a := ⟨vb, 0, none⟩) (b := ⟨gg, (i + 1) * 3, none⟩) hne hcv hc (by rw [hcs]; exact Nat.mul_ne_zero (by omega) (by decide)) (blk_frozen hcv _)) r1 r2).mono ?_
    rintro e w' ⟨rfl, rfl⟩
    refine ⟨_, rfl, ?_, hB.grown rg (below_size hB) (fun k hk => by cases hk; exact n4), IN.kept_grown rg (fun k hk => by cases hk; exact .inl n5)⟩
    have hR := IN.R_of_raw impl_Bal_77.flat (ok := fun k_ => (P0_ k_ ∨ P1_ k_) ∨ w.heap.size ≤ k_) n4 (.inl (.inl n5)) r4 (xs := l0.take i ++ [x] ++ l0.drop i) (by omega) n3 (by rw [r5]; exact hcs) r6
    rw [hlen] at hR
    exact hR
   ·
    have hgl : gg < w.heap.size := blk_lt hc
    have hvl : vb < w.heap.size := blk_lt hcv
    have lT : ((l0.take i).flatMap (fun x : S58 => ([.int .i64 x.f0, .int .i64 x.f1, .int .i64 x.f2] : List Value))).length = i * 3 := by rw [impl_Bal_77.flat.flen w, List.length_take, Nat.min_eq_left g5]; rfl
    obtain ⟨i0, hi0, hz⟩ := Option.map_eq_some_iff.1 info58
    simp only [Prod.mk.injEq] at hz
    have hrun := fun ty => IN.run_grow (P := Try.prog) w 25 3 ty 58 i0 (.agg #[(.int .i64 0), (.int .i64 0), (.int .i64 0)]) 3 24 Try.underlying25 Try.underlying3 hi0 hz.1 hz.2.1 hz.2.2 rfl (by decide) (by decide) (some ⟨gg, 0, none⟩) i co ((l0.take i).flatMap (fun x : S58 => ([.int .i64 x.f0, .int .i64 x.f1, .int .i64 x.f2] : List Value))) lT (fun h => by cases h)
     (fun a ha j u hj => by
      cases ha
      rw [Addr.add_lit, Nat.zero_add, cell_of_row w gg j cur 58 (0, 0) hc, ← Array.getElem?_toList, hL]
      have hx : l0 = l0.take i ++ l0.drop i := (List.take_append_drop i l0).symm
      rw [hx, List.flatMap_append, List.append_assoc, List.getElem?_append_left (List.getElem?_eq_some_iff.1 hj).1, hj]) .i64 (l0.length + 1 - i) (by omega) (by omega) (by omega)
    have hin1 : i + (l0.length + 1 - i) = l0.length + 1 := by omega
    rw [hin1] at hrun
    obtain ⟨C, hCe⟩ : ∃ C, C = grownCap w (l0.length + 1) co 58 := ⟨_, rfl⟩
    rw [← hCe] at hrun
    have hC1 : l0.length + 1 ≤ C := by rw [hCe]; exact grownCap_ge w _ _ _
    have hC2 : C ≤ maxLen := by rw [hCe]; exact grownCap_le_maxLen w _ _ _ (by unfold maxLen; omega)
    obtain ⟨Wa, hWa⟩ : ∃ Wa, Wa = w.drew.alloc (.cells (((l0.take i).flatMap (fun x : S58 => ([.int .i64 x.f0, .int .i64 x.f1, .int .i64 x.f2] : List Value))).toArray ++ Builtin.zeroCells (Value.agg #[Value.int .i64 0, Value.int .i64 0, Value.int .i64 0]).cells (l0.length + 1 - i) ++ Builtin.zeroCells (Value.agg #[Value.int .i64 0, Value.int .i64 0, Value.int .i64 0]).cells (C - (l0.length + 1))) 58) := ⟨_, rfl⟩
    rw [← hWa] at hrun
    have ha1 : w.grownBy Wa none := by
     have q := World.grownBy_alloc w.drew (.cells (((l0.take i).flatMap (fun x : S58 => ([.int .i64 x.f0, .int .i64 x.f1, .int .i64 x.f2] : List Value))).toArray ++ Builtin.zeroCells (Value.agg #[Value.int .i64 0, Value.int .i64 0, Value.int .i64 0]).cells (l0.length + 1 - i) ++ Builtin.zeroCells (Value.agg #[Value.int .i64 0, Value.int .i64 0, Value.int .i64 0]).cells (C - (l0.length + 1))) 58) none
     rw [← hWa] at q
     exact ⟨q.os, q.tape, q.output, q.size, q.block⟩
    have hca : Wa.heap[gg]? = some (.cells cur 58 (0, 0)) := (ha1.block gg hgl (by simp)).trans hc
    have hcva : Wa.heap[vb]? = some (.cells curv 58 (0, 0)) := (ha1.block vb hvl (by simp)).trans hcv
    have hha : Wa.heap[w.heap.size]? = some (.cells (((l0.take i).flatMap (fun x : S58 => ([.int .i64 x.f0, .int .i64 x.f1, .int .i64 x.f2] : List Value))).toArray ++ Builtin.zeroCells (Value.agg #[Value.int .i64 0, Value.int .i64 0, Value.int .i64 0]).cells (l0.length + 1 - i) ++ Builtin.zeroCells (Value.agg #[Value.int .i64 0, Value.int .i64 0, Value.int .i64 0]).cells (C - (l0.length + 1))) 58 (0, 0)) := by
     rw [hWa]
     exact Array.getElem?_push_size
    obtain ⟨W1, hW1⟩ : ∃ W1, W1 = Wa.setCells w.heap.size (i * 3) ((fun x : S58 => ([.int .i64 x.f0, .int .i64 x.f1, .int .i64 x.f2] : List Value)) x) := ⟨_, rfl⟩
    obtain ⟨W2, hW2⟩ : ∃ W2, W2 = W1.drew.setCells w.heap.size ((i + 1) * 3) ((l0.drop i).flatMap (fun x : S58 => ([.int .i64 x.f0, .int .i64 x.f1, .int .i64 x.f2] : List Value))) := ⟨_, rfl⟩
    have zl : ∀ m, (Builtin.zeroCells (Value.agg #[Value.int .i64 0, Value.int .i64 0, Value.int .i64 0]).cells m).toList.length = m * 3 := fun m => by simp [Builtin.zeroCells, Value.cells]
    obtain ⟨r1, r2, cur2, r4, r5, r6⟩ := IN.insert_grow (P := Try.prog) impl_Bal_77.flat (k := 3) rfl (Wa := Wa) (Wd := W1.drew) (x := x) hca hL hha (Z := (Builtin.zeroCells (Value.agg #[Value.int .i64 0, Value.int .i64 0, Value.int .i64 0]).cells (l0.length + 1 - i)).toList) (Z' := (Builtin.zeroCells (Value.agg #[Value.int .i64 0, Value.int .i64 0, Value.int .i64 0]).cells (C - (l0.length + 1))).toList) (by simp) (zl _) g5 (by omega) hcva hLv' 25 58 Try.underlying25 impl_Bal_77.sized hW1 rfl hW2
    have hg1 : Wa.grownBy W1 (some w.heap.size) := by rw [hW1]; exact IN.grown_set _ _
    have hg2 : W1.grownBy W2 (some w.heap.size) := by
     have q := IN.grown_set (W := W1.drew) (g := w.heap.size) ((l0.drop i).flatMap (fun x : S58 => ([.int .i64 x.f0, .int .i64 x.f1, .int .i64 x.f2] : List Value))) ((i + 1) * 3)
     rw [← hW2] at q
     exact ⟨q.os, q.tape, q.output, q.size, q.block⟩
    have rg : w.grownBy W2 none := ⟨hg2.os.trans (hg1.os.trans ha1.os), hg2.tape.trans (hg1.tape.trans ha1.tape), hg2.output.trans (hg1.output.trans ha1.output), Nat.le_trans ha1.size (Nat.le_trans hg1.size hg2.size), fun k hk _ => (hg2.block k (Nat.lt_of_lt_of_le hk (Nat.le_trans ha1.size hg1.size)) (by simp; omega)).trans ((hg1.block k (Nat.lt_of_lt_of_le hk ha1.size) (by simp; omega)).trans (ha1.block k hk (by simp)))⟩
    refine (impl_Bal_77.grow w Wa W1 W2 gg vb w.heap.size l0.length i co cv C (by omega) (by omega) n2 hC1 g4 hrun r1 r2).mono ?_
    rintro e w' ⟨rfl, rfl⟩
    refine ⟨_, rfl, ?_, hB.grown rg (below_size hB) (fun k hk => by cases hk), IN.kept_grown rg (fun k hk => by cases hk)⟩
    have hR := IN.R_of_raw impl_Bal_77.flat (ok := fun k_ => (P0_ k_ ∨ P1_ k_) ∨ w.heap.size ≤ k_) (below_size hB) (.inr (Nat.le_refl _)) r4 (xs := l0.take i ++ [x] ++ l0.drop i) (c := C) (by omega) hC2 (by
     rw [r5, ← Array.length_toList]
     simp only [Array.toList_append, List.length_append, zl, lT]
     show i * 3 + (l0.length + 1 - i) * 3 + (C - (l0.length + 1)) * 3 = C * 3
     omega) r6
    rw [hlen] at hR
    exact hR
 ·
  rw [if_neg hg] at h
  cases h
def impl_withBal.f (k : Nat) (l0 : List (S58)) (a1 : Int) (a2 : Int) (a3 : Int) : Option ((List (S58))) := (impl_Bal_62.f l0).bind fun t298 => ((impl_balAt.f k l0 a1 a2).bind fun bt301 => (if bt301.2 = true then ((impl_Bal_76.f t298 bt301.1 (wrap64 (bt301.1 + 1))).bind fun t303 => (if a3 = 0 then (some t303) else ((impl_Bal_77.f t303 bt301.1 (([(⟨a1, a2, a3⟩ : S58)] : List (S58)))).bind fun t309 => (some t309)))) else (if a3 = 0 then (some t298) else ((impl_Bal_77.f t298 bt301.1 (([(⟨a1, a2, a3⟩ : S58)] : List (S58)))).bind fun t315 => (some t315)))))
set_option maxHeartbeats 8000000 in
set_option maxRecDepth 100000 in
theorem impl_withBal.calls (k : Nat) (A0 : Option Addr) (c0 : Nat) (l0 : List (S58)) (a1 : Int) (a2 : Int) (a3 : Int) (r : List (S58)) (w : World) (hr0 : Kd.C k58 w A0 l0.length l0) (hc0 : l0.length ≤ c0) (h : impl_withBal.f k l0 a1 a2 a3 = some r) :
 Calls Try.prog 59 #[.slice A0 l0.length c0, .int .i64 a1, .int .i64 a2, .int .i64 a3] w fun e w' => ∃ v0_ : Value, e = .returned (v0_) ∧ Kd.R k58 58 w' w.heap.size (fun _ => True) v0_ r ∧ Below w.heap.size w w' := by
 have hu58 := Try.underlying58
 have HR0 := Aside0.mk hr0
 have HC0 := Aside0.mk hc0
 clear hr0 hc0
 have HB := Aside0.mk (Below.refl w.heap.size w)
 have H : ((impl_Bal_62.f l0).bind fun t298 => ((impl_balAt.f k l0 a1 a2).bind fun bt301 => (if bt301.2 = true then ((impl_Bal_76.f t298 bt301.1 (wrap64 (bt301.1 + 1))).bind fun t303 => (if a3 = 0 then (some t303) else ((impl_Bal_77.f t303 bt301.1 (([(⟨a1, a2, a3⟩ : S58)] : List (S58)))).bind fun t309 => (some t309)))) else (if a3 = 0 then (some t298) else ((impl_Bal_77.f t298 bt301.1 (([(⟨a1, a2, a3⟩ : S58)] : List (S58)))).bind fun t315 => (some t315)))))) = some r := h
 clear h
 replace H := Option.bind_eq_some_iff.mp H
 obtain ⟨t298, A50, H⟩ := H
 replace H : ((impl_balAt.f k l0 a1 a2).bind fun bt301 => (if bt301.2 = true then ((impl_Bal_76.f t298 bt301.1 (wrap64 (bt301.1 + 1))).bind fun t303 => (if a3 = 0 then (some t303) else ((impl_Bal_77.f t303 bt301.1 (([(⟨a1, a2, a3⟩ : S58)] : List (S58)))).bind fun t309 => (some t309)))) else (if a3 = 0 then (some t298) else ((impl_Bal_77.f t298 bt301.1 (([(⟨a1, a2, a3⟩ : S58)] : List (S58)))).bind fun t315 => (some t315))))) = some r := H
 have A5 := Aside0.mk A50
 clear A50
 replace H := Option.bind_eq_some_iff.mp H
 obtain ⟨⟨t301, t302⟩, A60, H⟩ := H
 replace H : (if t302 = true then ((impl_Bal_76.f t298 t301 (wrap64 (t301 + 1))).bind fun t303 => (if a3 = 0 then (some t303) else ((impl_Bal_77.f t303 t301 (([(⟨a1, a2, a3⟩ : S58)] : List (S58)))).bind fun t309 => (some t309)))) else (if a3 = 0 then (some t298) else ((impl_Bal_77.f t298 t301 (([(⟨a1, a2, a3⟩ : S58)] : List (S58)))).bind fun t315 => (some t315)))) = some r := H
 have A6 := Aside0.mk A60
 clear A60
 by_cases c7 : t302 = true
 ·
  subst c7
  have H1 : ((impl_Bal_76.f t298 t301 (wrap64 (t301 + 1))).bind fun t303 => (if a3 = 0 then (some t303) else ((impl_Bal_77.f t303 t301 (([(⟨a1, a2, a3⟩ : S58)] : List (S58)))).bind fun t309 => (some t309)))) = some r := by rw [if_pos rfl] at H; exact H
  clear H
  have H := H1
  clear H1
  replace H := Option.bind_eq_some_iff.mp H
  obtain ⟨t303, A80, H⟩ := H
  replace H : (if a3 = 0 then (some t303) else ((impl_Bal_77.f t303 t301 (([(⟨a1, a2, a3⟩ : S58)] : List (S58)))).bind fun t309 => (some t309))) = some r := H
  have A8 := Aside0.mk A80
  clear A80
  by_cases c9 : a3 = 0
  ·
   rw [if_pos c9] at H
   have c9b0 : (a3 == 0) = true := beq_iff_eq.mpr c9
   have c9b1 : (a3 != 0) = false := bne_eq_false_iff_eq.mpr c9
   clear c9
   obtain rfl := Option.some.inj H
   go_enter Try.func59, Try.ntmps59
   go_wp2_with (first | ((with_reducible refine gate_callee (f := 62) rfl ?_); refine goesL_ (some 13) rfl rfl Try.func62 (by kernel_rfl) rfl #[.slice A0 l0.length c0] rfl (by (try simp only [List.map_toArray, List.map_cons, List.map_nil]); first | done | rfl | (simp only [List.length_drop, List.length_take]; rfl)) ?_; (with_reducible refine (impl_Bal_62.calls _ _ l0 t298 _ ?side1 ?side2 A5.out).mono ?_); (case side1 => repeat (first | exact HR0.out | (with_reducible refine Kd.C_alloc ?_ _) | (with_reducible refine Kd.C_drewN ?_ _) | (with_reducible refine Kd.C_drew ?_))); (case side2 => exact HC0.out); rintro e w10 ⟨v299, rfl, ho0, hb⟩; refine ⟨_, rfl, ?_⟩; have n0_ := Aside0.mk (Kd.R_lower ho0 (below_size (bb_))); have n1_ := Aside0.mk (below_step (bb_) hb); clear HB; have HO300 := n0_; have HB := n1_; clear n0_ n1_; (try clear hb); (try clear hb2); (try clear hk); (try clear hi); (try clear ho0)) | ((with_reducible refine gate_callee (f := 75) rfl ?_); refine goesL_ (some 18) rfl rfl Try.func75 (by kernel_rfl) rfl #[.slice A0 l0.length c0, .int .i64 a1, .int .i64 a2] rfl (by (try simp only [List.map_toArray, List.map_cons, List.map_nil]); first | done | rfl | (simp only [List.length_drop, List.length_take]; rfl)) ?_; (with_reducible refine (impl_balAt.calls k _ _ l0 a1 a2 t301 true _ ?side1 ?side2 A6.out).mono ?_); (case side1 => repeat (first | exact (Kd.C_below HR0.out HB.out) | (with_reducible refine Kd.C_alloc ?_ _) | (with_reducible refine Kd.C_drewN ?_ _) | (with_reducible refine Kd.C_drew ?_))); (case side2 => exact HC0.out); rintro e w11 ⟨rfl, hb⟩; refine ⟨_, rfl, ?_⟩; have n0_ := Aside0.mk (Kd.R_below (by (with_reducible repeat (first | apply Kd.R_alloc | apply Kd.R_drewN | apply Kd.R_drew)); exact HO300.out) hb); have n1_ := Aside0.mk (below_step (bb_) hb); clear HO300; clear HB; have HO300 := n0_; have HB := n1_; clear n0_ n1_; (try clear hb); (try clear hb2); (try clear hk); (try clear hi); obtain ⟨Ao12, co12, eo12⟩ := Kd.R_slice HO300.out; subst eo12) | ((with_reducible refine gate_callee (f := 76) rfl ?_); refine goesL_ (some 26) rfl rfl Try.func76 (by kernel_rfl) rfl #[.slice Ao12 t298.length co12, .int .i64 t301, .int .i64 (wrap64 (t301 + 1))] rfl (by (try simp only [List.map_toArray, List.map_cons, List.map_nil]); first | done | rfl | (simp only [List.length_drop, List.length_take]; rfl)) ?_; (with_reducible refine (impl_Bal_76.calls (fun k_ => some k_ = (.slice Ao12 t298.length co12 : Value).ownBlock) (.slice Ao12 t298.length co12) t298 t301 (wrap64 (t301 + 1)) t303 w _ ?side1 ?side2 A8.out).mono ?_); (case side1 => repeat (first | (with_reducible first | exact HB.out | apply below_alloc | apply pw_below_drewN | apply below_drew1) | exact HB.out)); (case side2 => exact Kd.R_tight rfl HO300.out); rintro e w13 ⟨v304, rfl, ho0, hb, hkp⟩; refine ⟨_, rfl, ?_⟩; have n0_ := Aside0.mk (Kd.R_mono (ok' := fun k_ => True) ho0 (fun k_ hk_ => trivial)); have n1_ := Aside0.mk (hb); clear HB; clear HO300; have HO305 := n0_; have HB := n1_; clear n0_ n1_; (try clear hb); (try clear hkp); (try clear ho0)))
   go_ret
   exact ⟨_, by first | rfl | (simp [errW_none, errW_some] <;> rfl) | (simp [*, errW_none, errW_some] <;> rfl), by (with_reducible repeat (first | apply Kd.R_alloc | apply Kd.R_drewN | apply Kd.R_drew)); exact HO305.out, bb_⟩
  ·
   rw [if_neg c9] at H
   have c9b0 : (a3 == 0) = false := beq_eq_false_iff_ne.mpr c9
   have c9b1 : (a3 != 0) = true := bne_iff_ne.mpr c9
   obtain ⟨y306, hy306⟩ : ∃ y_ : List (S58), y_ = (([(⟨a1, a2, a3⟩ : S58)] : List (S58))) := ⟨_, rfl⟩
   replace H : ((impl_Bal_77.f t303 t301 y306).bind fun t309 => (some t309)) = some r := by first | (rw [hy306]; with_reducible exact H) | (have H2_ := (Option.bind_some _ _).symm.trans H; rw [hy306]; with_reducible exact H2_) | (have H2_ := (Option.bind_some _ _).symm.trans H; with_reducible exact H2_) | with_reducible exact H | (rw [hy306]; exact H) | exact H
   have Ny306 := Aside0.mk hy306
   clear hy306
   replace H := Option.bind_eq_some_iff.mp H
   obtain ⟨t309, A140, H⟩ := H
   replace H : (some t309) = some r := H
   have A14 := Aside0.mk A140
   clear A140
   obtain rfl := Option.some.inj H
   go_enter Try.func59, Try.ntmps59
   go_wp2_with (first | ((with_reducible refine gate_callee (f := 62) rfl ?_); refine goesL_ (some 13) rfl rfl Try.func62 (by kernel_rfl) rfl #[.slice A0 l0.length c0] rfl (by (try simp only [List.map_toArray, List.map_cons, List.map_nil]); first | done | rfl | (simp only [List.length_drop, List.length_take]; rfl)) ?_; (with_reducible refine (impl_Bal_62.calls _ _ l0 t298 _ ?side1 ?side2 A5.out).mono ?_); (case side1 => repeat (first | exact HR0.out | (with_reducible refine Kd.C_alloc ?_ _) | (with_reducible refine Kd.C_drewN ?_ _) | (with_reducible refine Kd.C_drew ?_))); (case side2 => exact HC0.out); rintro e w15 ⟨v299, rfl, ho0, hb⟩; refine ⟨_, rfl, ?_⟩; have n0_ := Aside0.mk (Kd.R_lower ho0 (below_size (bb_))); have n1_ := Aside0.mk (below_step (bb_) hb); clear HB; have HO300 := n0_; have HB := n1_; clear n0_ n1_; (try clear hb); (try clear hb2); (try clear hk); (try clear hi); (try clear ho0)) | ((with_reducible refine gate_callee (f := 75) rfl ?_); refine goesL_ (some 18) rfl rfl Try.func75 (by kernel_rfl) rfl #[.slice A0 l0.length c0, .int .i64 a1, .int .i64 a2] rfl (by (try simp only [List.map_toArray, List.map_cons, List.map_nil]); first | done | rfl | (simp only [List.length_drop, List.length_take]; rfl)) ?_; (with_reducible refine (impl_balAt.calls k _ _ l0 a1 a2 t301 true _ ?side1 ?side2 A6.out).mono ?_); (case side1 => repeat (first | exact (Kd.C_below HR0.out HB.out) | (with_reducible refine Kd.C_alloc ?_ _) | (with_reducible refine Kd.C_drewN ?_ _) | (with_reducible refine Kd.C_drew ?_))); (case side2 => exact HC0.out); rintro e w16 ⟨rfl, hb⟩; refine ⟨_, rfl, ?_⟩; have n0_ := Aside0.mk (Kd.R_below (by (with_reducible repeat (first | apply Kd.R_alloc | apply Kd.R_drewN | apply Kd.R_drew)); exact HO300.out) hb); have n1_ := Aside0.mk (below_step (bb_) hb); clear HO300; clear HB; have HO300 := n0_; have HB := n1_; clear n0_ n1_; (try clear hb); (try clear hb2); (try clear hk); (try clear hi); obtain ⟨Ao17, co17, eo17⟩ := Kd.R_slice HO300.out; subst eo17) | ((with_reducible refine gate_callee (f := 76) rfl ?_); refine goesL_ (some 26) rfl rfl Try.func76 (by kernel_rfl) rfl #[.slice Ao17 t298.length co17, .int .i64 t301, .int .i64 (wrap64 (t301 + 1))] rfl (by (try simp only [List.map_toArray, List.map_cons, List.map_nil]); first | done | rfl | (simp only [List.length_drop, List.length_take]; rfl)) ?_; (with_reducible refine (impl_Bal_76.calls (fun k_ => some k_ = (.slice Ao17 t298.length co17 : Value).ownBlock) (.slice Ao17 t298.length co17) t298 t301 (wrap64 (t301 + 1)) t303 w _ ?side1 ?side2 A8.out).mono ?_); (case side1 => repeat (first | (with_reducible first | exact HB.out | apply below_alloc | apply pw_below_drewN | apply below_drew1) | exact HB.out)); (case side2 => exact Kd.R_tight rfl HO300.out); rintro e w18 ⟨v304, rfl, ho0, hb, hkp⟩; refine ⟨_, rfl, ?_⟩; have n0_ := Aside0.mk (Kd.R_mono (ok' := fun k_ => True) ho0 (fun k_ hk_ => trivial)); have n1_ := Aside0.mk (hb); clear HB; clear HO300; have HO305 := n0_; have HB := n1_; clear n0_ n1_; (try clear hb); (try clear hkp); (try clear ho0)) | ((with_reducible refine gate_dst (N := 35) rfl ?_); refine Kd.R_lit k58 _ 58 ?hg (N := 35) ?hd (xs := ([(⟨a1, a2, a3⟩ : S58)] : List (S58))) (inner := [.int .i64 a1, .int .i64 a2, .int .i64 a3]) (ok := fun _ => True) (okp := fun _ => True) ?hr ?hp (fun _ hk => hk) trivial (Below.refl _ _) (Nat.le_refl _) (by simp) ?_; (case hd => rfl); (case hg => rfl); (case hr => first | (go_simp; done) | (go_simp; rfl)); (case hp => exact (Reps.c3 (show Kd.M k58 _ _ _ (⟨a1, a2, a3⟩ : S58) [.int .i64 a1, .int .i64 a2, .int .i64 a3] from (k58_mkM _ _ _ (⟨a1, a2, a3⟩ : S58) )) (Reps.none _ _))); intro v307 w19 ho20 hb hg_ hnew_; clear hg_ hnew_; (first | rw [← Ny306.out] at ho20 | (simp only [Int.reduceToNat] at ho20; rw [← Ny306.out] at ho20)); have n0_ := Aside0.mk (Kd.R_elder' (by (with_reducible repeat (first | apply Kd.R_alloc | apply Kd.R_drewN | apply Kd.R_drew)); exact HO305.out) (Kd.R_base ho20) hb); have n1_ := Aside0.mk (Kd.R_lower (Kd.R_new' ho20 (Kd.R_lt (by (with_reducible repeat (first | apply Kd.R_alloc | apply Kd.R_drewN | apply Kd.R_drew)); exact HO305.out))) (below_size (bb_))); have n2_ := Aside0.mk (below_step (bb_) hb); clear HO305; clear HB; have HO305 := n0_; have HO308 := n1_; have HB := n2_; clear n0_ n1_ n2_; clear hb ho20; obtain ⟨Ao21, co21, eo21⟩ := Kd.R_slice HO305.out; subst eo21; obtain ⟨Ao22, co22, eo22⟩ := Kd.R_slice HO308.out; subst eo22) | ((with_reducible refine gate_callee (f := 77) rfl ?_); refine goesL_ (some 36) rfl rfl Try.func77 (by kernel_rfl) rfl #[.slice Ao21 t303.length co21, .int .i64 t301, .slice Ao22 y306.length co22] rfl (by (try simp only [List.map_toArray, List.map_cons, List.map_nil]); first | done | rfl | (simp only [List.length_drop, List.length_take]; rfl)) ?_; (with_reducible refine (impl_Bal_77.calls (fun k_ => some k_ = (.slice Ao21 t303.length co21 : Value).ownBlock) (.slice Ao21 t303.length co21) t303 t301 (fun k_ => some k_ = (.slice Ao22 y306.length co22 : Value).ownBlock) (.slice Ao22 y306.length co22) y306 t309 w _ ?side1 ?side2 ?side3 ?side4 ?side5 A14.out).mono ?_); (case side1 => repeat (first | (with_reducible first | exact HB.out | apply below_alloc | apply pw_below_drewN | apply below_drew1) | exact HB.out)); (case side2 => exact Kd.R_tight rfl HO305.out); (case side3 => exact fun k_ e_ => (HO305.out.1 k_ e_.symm).2); (case side4 => exact Kd.R_tight rfl HO308.out); (case side5 => exact fun k_ e_ => (HO308.out.1 k_ e_.symm).2); rintro e w23 ⟨v310, rfl, ho0, hb, hkp⟩; refine ⟨_, rfl, ?_⟩; have n0_ := Aside0.mk (Kd.R_mono (ok' := fun k_ => True) ho0 (fun k_ hk_ => trivial)); have n1_ := Aside0.mk (hb); clear HB; clear HO305; clear HO308; have HO311 := n0_; have HB := n1_; clear n0_ n1_; (try clear hb); (try clear hkp); (try clear ho0)))
   go_ret
   exact ⟨_, by first | rfl | (simp [errW_none, errW_some] <;> rfl) | (simp [*, errW_none, errW_some] <;> rfl), by (with_reducible repeat (first | apply Kd.R_alloc | apply Kd.R_drewN | apply Kd.R_drew)); exact HO311.out, bb_⟩
 ·
  replace c7 := Bool.eq_false_iff.mpr c7
  subst c7
  have H1 : (if a3 = 0 then (some t298) else ((impl_Bal_77.f t298 t301 (([(⟨a1, a2, a3⟩ : S58)] : List (S58)))).bind fun t315 => (some t315))) = some r := by rw [if_neg (show ¬ (false = true) by decide)] at H; exact H
  clear H
  have H := H1
  clear H1
  by_cases c24 : a3 = 0
  ·
   rw [if_pos c24] at H
   have c24b0 : (a3 == 0) = true := beq_iff_eq.mpr c24
   have c24b1 : (a3 != 0) = false := bne_eq_false_iff_eq.mpr c24
   clear c24
   obtain rfl := Option.some.inj H
   go_enter Try.func59, Try.ntmps59
   go_wp2_with (first | ((with_reducible refine gate_callee (f := 62) rfl ?_); refine goesL_ (some 13) rfl rfl Try.func62 (by kernel_rfl) rfl #[.slice A0 l0.length c0] rfl (by (try simp only [List.map_toArray, List.map_cons, List.map_nil]); first | done | rfl | (simp only [List.length_drop, List.length_take]; rfl)) ?_; (with_reducible refine (impl_Bal_62.calls _ _ l0 t298 _ ?side1 ?side2 A5.out).mono ?_); (case side1 => repeat (first | exact HR0.out | (with_reducible refine Kd.C_alloc ?_ _) | (with_reducible refine Kd.C_drewN ?_ _) | (with_reducible refine Kd.C_drew ?_))); (case side2 => exact HC0.out); rintro e w25 ⟨v299, rfl, ho0, hb⟩; refine ⟨_, rfl, ?_⟩; have n0_ := Aside0.mk (Kd.R_lower ho0 (below_size (bb_))); have n1_ := Aside0.mk (below_step (bb_) hb); clear HB; have HO300 := n0_; have HB := n1_; clear n0_ n1_; (try clear hb); (try clear hb2); (try clear hk); (try clear hi); (try clear ho0)) | ((with_reducible refine gate_callee (f := 75) rfl ?_); refine goesL_ (some 18) rfl rfl Try.func75 (by kernel_rfl) rfl #[.slice A0 l0.length c0, .int .i64 a1, .int .i64 a2] rfl (by (try simp only [List.map_toArray, List.map_cons, List.map_nil]); first | done | rfl | (simp only [List.length_drop, List.length_take]; rfl)) ?_; (with_reducible refine (impl_balAt.calls k _ _ l0 a1 a2 t301 false _ ?side1 ?side2 A6.out).mono ?_); (case side1 => repeat (first | exact (Kd.C_below HR0.out HB.out) | (with_reducible refine Kd.C_alloc ?_ _) | (with_reducible refine Kd.C_drewN ?_ _) | (with_reducible refine Kd.C_drew ?_))); (case side2 => exact HC0.out); rintro e w26 ⟨rfl, hb⟩; refine ⟨_, rfl, ?_⟩; have n0_ := Aside0.mk (Kd.R_below (by (with_reducible repeat (first | apply Kd.R_alloc | apply Kd.R_drewN | apply Kd.R_drew)); exact HO300.out) hb); have n1_ := Aside0.mk (below_step (bb_) hb); clear HO300; clear HB; have HO300 := n0_; have HB := n1_; clear n0_ n1_; (try clear hb); (try clear hb2); (try clear hk); (try clear hi)))
   go_ret
   exact ⟨_, by first | rfl | (simp [errW_none, errW_some] <;> rfl) | (simp [*, errW_none, errW_some] <;> rfl), by (with_reducible repeat (first | apply Kd.R_alloc | apply Kd.R_drewN | apply Kd.R_drew)); exact HO300.out, bb_⟩
  ·
   rw [if_neg c24] at H
   have c24b0 : (a3 == 0) = false := beq_eq_false_iff_ne.mpr c24
   have c24b1 : (a3 != 0) = true := bne_iff_ne.mpr c24
   obtain ⟨y312, hy312⟩ : ∃ y_ : List (S58), y_ = (([(⟨a1, a2, a3⟩ : S58)] : List (S58))) := ⟨_, rfl⟩
   replace H : ((impl_Bal_77.f t298 t301 y312).bind fun t315 => (some t315)) = some r := by first | (rw [hy312]; with_reducible exact H) | (have H2_ := (Option.bind_some _ _).symm.trans H; rw [hy312]; with_reducible exact H2_) | (have H2_ := (Option.bind_some _ _).symm.trans H; with_reducible exact H2_) | with_reducible exact H | (rw [hy312]; exact H) | exact H
   have Ny312 := Aside0.mk hy312
   clear hy312
   replace H := Option.bind_eq_some_iff.mp H
   obtain ⟨t315, A270, H⟩ := H
   replace H : (some t315) = some r := H
   have A27 := Aside0.mk A270
   clear A270
   obtain rfl := Option.some.inj H
   go_enter Try.func59, Try.ntmps59
   go_wp2_with (first | ((with_reducible refine gate_callee (f := 62) rfl ?_); refine goesL_ (some 13) rfl rfl Try.func62 (by kernel_rfl) rfl #[.slice A0 l0.length c0] rfl (by (try simp only [List.map_toArray, List.map_cons, List.map_nil]); first | done | rfl | (simp only [List.length_drop, List.length_take]; rfl)) ?_; (with_reducible refine (impl_Bal_62.calls _ _ l0 t298 _ ?side1 ?side2 A5.out).mono ?_); (case side1 => repeat (first | exact HR0.out | (with_reducible refine Kd.C_alloc ?_ _) | (with_reducible refine Kd.C_drewN ?_ _) | (with_reducible refine Kd.C_drew ?_))); (case side2 => exact HC0.out); rintro e w28 ⟨v299, rfl, ho0, hb⟩; refine ⟨_, rfl, ?_⟩; have n0_ := Aside0.mk (Kd.R_lower ho0 (below_size (bb_))); have n1_ := Aside0.mk (below_step (bb_) hb); clear HB; have HO300 := n0_; have HB := n1_; clear n0_ n1_; (try clear hb); (try clear hb2); (try clear hk); (try clear hi); (try clear ho0)) | ((with_reducible refine gate_callee (f := 75) rfl ?_); refine goesL_ (some 18) rfl rfl Try.func75 (by kernel_rfl) rfl #[.slice A0 l0.length c0, .int .i64 a1, .int .i64 a2] rfl (by (try simp only [List.map_toArray, List.map_cons, List.map_nil]); first | done | rfl | (simp only [List.length_drop, List.length_take]; rfl)) ?_; (with_reducible refine (impl_balAt.calls k _ _ l0 a1 a2 t301 false _ ?side1 ?side2 A6.out).mono ?_); (case side1 => repeat (first | exact (Kd.C_below HR0.out HB.out) | (with_reducible refine Kd.C_alloc ?_ _) | (with_reducible refine Kd.C_drewN ?_ _) | (with_reducible refine Kd.C_drew ?_))); (case side2 => exact HC0.out); rintro e w29 ⟨rfl, hb⟩; refine ⟨_, rfl, ?_⟩; have n0_ := Aside0.mk (Kd.R_below (by (with_reducible repeat (first | apply Kd.R_alloc | apply Kd.R_drewN | apply Kd.R_drew)); exact HO300.out) hb); have n1_ := Aside0.mk (below_step (bb_) hb); clear HO300; clear HB; have HO300 := n0_; have HB := n1_; clear n0_ n1_; (try clear hb); (try clear hb2); (try clear hk); (try clear hi)) | ((with_reducible refine gate_dst (N := 35) rfl ?_); refine Kd.R_lit k58 _ 58 ?hg (N := 35) ?hd (xs := ([(⟨a1, a2, a3⟩ : S58)] : List (S58))) (inner := [.int .i64 a1, .int .i64 a2, .int .i64 a3]) (ok := fun _ => True) (okp := fun _ => True) ?hr ?hp (fun _ hk => hk) trivial (Below.refl _ _) (Nat.le_refl _) (by simp) ?_; (case hd => rfl); (case hg => rfl); (case hr => first | (go_simp; done) | (go_simp; rfl)); (case hp => exact (Reps.c3 (show Kd.M k58 _ _ _ (⟨a1, a2, a3⟩ : S58) [.int .i64 a1, .int .i64 a2, .int .i64 a3] from (k58_mkM _ _ _ (⟨a1, a2, a3⟩ : S58) )) (Reps.none _ _))); intro v313 w30 ho31 hb hg_ hnew_; clear hg_ hnew_; (first | rw [← Ny312.out] at ho31 | (simp only [Int.reduceToNat] at ho31; rw [← Ny312.out] at ho31)); have n0_ := Aside0.mk (Kd.R_elder' (by (with_reducible repeat (first | apply Kd.R_alloc | apply Kd.R_drewN | apply Kd.R_drew)); exact HO300.out) (Kd.R_base ho31) hb); have n1_ := Aside0.mk (Kd.R_lower (Kd.R_new' ho31 (Kd.R_lt (by (with_reducible repeat (first | apply Kd.R_alloc | apply Kd.R_drewN | apply Kd.R_drew)); exact HO300.out))) (below_size (bb_))); have n2_ := Aside0.mk (below_step (bb_) hb); clear HO300; clear HB; have HO300 := n0_; have HO314 := n1_; have HB := n2_; clear n0_ n1_ n2_; clear hb ho31; obtain ⟨Ao32, co32, eo32⟩ := Kd.R_slice HO300.out; subst eo32; obtain ⟨Ao33, co33, eo33⟩ := Kd.R_slice HO314.out; subst eo33) | ((with_reducible refine gate_callee (f := 77) rfl ?_); refine goesL_ (some 36) rfl rfl Try.func77 (by kernel_rfl) rfl #[.slice Ao32 t298.length co32, .int .i64 t301, .slice Ao33 y312.length co33] rfl (by (try simp only [List.map_toArray, List.map_cons, List.map_nil]); first | done | rfl | (simp only [List.length_drop, List.length_take]; rfl)) ?_; (with_reducible refine (impl_Bal_77.calls (fun k_ => some k_ = (.slice Ao32 t298.length co32 : Value).ownBlock) (.slice Ao32 t298.length co32) t298 t301 (fun k_ => some k_ = (.slice Ao33 y312.length co33 : Value).ownBlock) (.slice Ao33 y312.length co33) y312 t315 w _ ?side1 ?side2 ?side3 ?side4 ?side5 A27.out).mono ?_); (case side1 => repeat (first | (with_reducible first | exact HB.out | apply below_alloc | apply pw_below_drewN | apply below_drew1) | exact HB.out)); (case side2 => exact Kd.R_tight rfl HO300.out); (case side3 => exact fun k_ e_ => (HO300.out.1 k_ e_.symm).2); (case side4 => exact Kd.R_tight rfl HO314.out); (case side5 => exact fun k_ e_ => (HO314.out.1 k_ e_.symm).2); rintro e w34 ⟨v316, rfl, ho0, hb, hkp⟩; refine ⟨_, rfl, ?_⟩; have n0_ := Aside0.mk (Kd.R_mono (ok' := fun k_ => True) ho0 (fun k_ hk_ => trivial)); have n1_ := Aside0.mk (hb); clear HB; clear HO300; clear HO314; have HO317 := n0_; have HB := n1_; clear n0_ n1_; (try clear hb); (try clear hkp); (try clear ho0)))
   go_ret
   exact ⟨_, by first | rfl | (simp [errW_none, errW_some] <;> rfl) | (simp [*, errW_none, errW_some] <;> rfl), by (with_reducible repeat (first | apply Kd.R_alloc | apply Kd.R_drewN | apply Kd.R_drew)); exact HO317.out, bb_⟩
end Go.Proofs.Ytpcjpjjkaplebaa.P
namespace Go.Proofs.Ytpcjpjjkaplebaa.P
open Go.RowKit Go.Proofs.YtpcjpjjkaplebaaW.PrintWords Go.Proofs.YtpcjpjjkaplebaaW.PrintLast Go.Proofs.YtpcjpjjkaplebaaW.PrintMore
attribute [local go_sem] max2_int min2_int max_two min_two max_three min_three max_four min_four   -- for this text's walks alone
set_option linter.unusedVariables false
set_option linter.unusedSimpArgs false
def spec_AddIn.f (a0 : Int) (a1 : Int) : Option (Int × Bool) := (spec_AmountOk.f a0).bind fun t366 => (if t366 = true then ((spec_AmountOk.f a1).bind fun t367 => ((spec_l1Told.f (wrap64 (a0 + a1)) t367).bind fun bt368 => (some (bt368.1, bt368.2)))) else ((spec_l1Told.f (wrap64 (a0 + a1)) false).bind fun bt370 => (some (bt370.1, bt370.2))))
set_option maxHeartbeats 8000000 in
set_option maxRecDepth 100000 in
theorem spec_AddIn.calls (a0 : Int) (a1 : Int) (r1 : Int) (r2 : Bool) (w : World) (h : spec_AddIn.f a0 a1 = some (r1, r2)) :
 Calls Try.prog 60 #[.int .i64 a0, .int .i64 a1] w fun e w' => e = .returned (.tuple #[.int .i64 r1, .bool r2]) ∧ Drawn0 w w' := by
 have H : ((spec_AmountOk.f a0).bind fun t366 => (if t366 = true then ((spec_AmountOk.f a1).bind fun t367 => ((spec_l1Told.f (wrap64 (a0 + a1)) t367).bind fun bt368 => (some (bt368.1, bt368.2)))) else ((spec_l1Told.f (wrap64 (a0 + a1)) false).bind fun bt370 => (some (bt370.1, bt370.2))))) = some (r1, r2) := h
 clear h
 replace H := Option.bind_eq_some_iff.mp H
 obtain ⟨t366, A30, H⟩ := H
 replace H : (if t366 = true then ((spec_AmountOk.f a1).bind fun t367 => ((spec_l1Told.f (wrap64 (a0 + a1)) t367).bind fun bt368 => (some (bt368.1, bt368.2)))) else ((spec_l1Told.f (wrap64 (a0 + a1)) false).bind fun bt370 => (some (bt370.1, bt370.2)))) = some (r1, r2) := H
 have A3 := Aside0.mk A30
 clear A30
 by_cases c4 : t366 = true
 ·
  subst c4
  have H1 : ((spec_AmountOk.f a1).bind fun t367 => ((spec_l1Told.f (wrap64 (a0 + a1)) t367).bind fun bt368 => (some (bt368.1, bt368.2)))) = some (r1, r2) := by rw [if_pos rfl] at H; exact H
  clear H
  have H := H1
  clear H1
  replace H := Option.bind_eq_some_iff.mp H
  obtain ⟨t367, A50, H⟩ := H
  replace H : ((spec_l1Told.f (wrap64 (a0 + a1)) t367).bind fun bt368 => (some (bt368.1, bt368.2))) = some (r1, r2) := H
  have A5 := Aside0.mk A50
  clear A50
  replace H := Option.bind_eq_some_iff.mp H
  obtain ⟨⟨t368, t369⟩, A60, H⟩ := H
  replace H : (some (t368, t369)) = some (r1, r2) := H
  have A6 := Aside0.mk A60
  clear A60
  simp only [Option.some.injEq, Prod.mk.injEq] at H
  obtain ⟨rfl, rfl⟩ := H
  go_enter Try.func60, Try.ntmps60
  go_wp2_with (first | ((with_reducible refine gate_callee (f := 42) rfl ?_); refine goesL_ (some 10) rfl rfl Try.func42 (by kernel_rfl) rfl #[.int .i64 a0] rfl (by (try simp only [List.map_toArray, List.map_cons, List.map_nil]); first | done | rfl | (simp only [List.length_drop, List.length_take]; rfl)) ?_; (with_reducible refine (spec_AmountOk.calls a0 true _ A3.out).mono ?_); rintro e w' ⟨rfl, ⟨nd, rfl⟩⟩; refine ⟨_, rfl, ?_⟩) | (go_at_call 42; (with_reducible refine (spec_AmountOk.calls a1 t367 _ A5.out).mono ?_); rintro e w' ⟨rfl, ⟨nd, rfl⟩⟩) | ((with_reducible refine gate_callee (f := 55) rfl ?_); refine goesL_ (some 15) rfl rfl Try.func55 (by kernel_rfl) rfl #[.int .i64 (wrap64 (a0 + a1)), .bool t367] rfl (by (try simp only [List.map_toArray, List.map_cons, List.map_nil]); first | done | rfl | (simp only [List.length_drop, List.length_take]; rfl)) ?_; (with_reducible refine (spec_l1Told.calls (wrap64 (a0 + a1)) t367 t368 t369 _ A6.out).mono ?_); rintro e w' ⟨rfl, ⟨nd, rfl⟩⟩; refine ⟨_, rfl, ?_⟩))
  go_ret2
  exact ⟨by first | rfl | (simp; done) | (simp [*]; done), by repeat (first | exact Drawn0.refl _ | apply Drawn0.step)⟩
 ·
  replace c4 := Bool.eq_false_iff.mpr c4
  subst c4
  have H1 : ((spec_l1Told.f (wrap64 (a0 + a1)) false).bind fun bt370 => (some (bt370.1, bt370.2))) = some (r1, r2) := by rw [if_neg (show ¬ (false = true) by decide)] at H; exact H
  clear H
  have H := H1
  clear H1
  replace H := Option.bind_eq_some_iff.mp H
  obtain ⟨⟨t370, t371⟩, A70, H⟩ := H
  replace H : (some (t370, t371)) = some (r1, r2) := H
  have A7 := Aside0.mk A70
  clear A70
  simp only [Option.some.injEq, Prod.mk.injEq] at H
  obtain ⟨rfl, rfl⟩ := H
  go_enter Try.func60, Try.ntmps60
  go_wp2_with (first | ((with_reducible refine gate_callee (f := 42) rfl ?_); refine goesL_ (some 10) rfl rfl Try.func42 (by kernel_rfl) rfl #[.int .i64 a0] rfl (by (try simp only [List.map_toArray, List.map_cons, List.map_nil]); first | done | rfl | (simp only [List.length_drop, List.length_take]; rfl)) ?_; (with_reducible refine (spec_AmountOk.calls a0 false _ A3.out).mono ?_); rintro e w' ⟨rfl, ⟨nd, rfl⟩⟩; refine ⟨_, rfl, ?_⟩) | ((with_reducible refine gate_callee (f := 55) rfl ?_); refine goesL_ (some 15) rfl rfl Try.func55 (by kernel_rfl) rfl #[.int .i64 (wrap64 (a0 + a1)), .bool false] rfl (by (try simp only [List.map_toArray, List.map_cons, List.map_nil]); first | done | rfl | (simp only [List.length_drop, List.length_take]; rfl)) ?_; (with_reducible refine (spec_l1Told.calls (wrap64 (a0 + a1)) false t370 t371 _ A7.out).mono ?_); rintro e w' ⟨rfl, ⟨nd, rfl⟩⟩; refine ⟨_, rfl, ?_⟩))
  go_ret2
  exact ⟨by first | rfl | (simp; done) | (simp [*]; done), by repeat (first | exact Drawn0.refl _ | apply Drawn0.step)⟩
def spec_l4Has.l0 : Nat → List Int → Int → Int → Option (Bool)
 | 0, _, _, _ => none
 | k + 1, x0, x1, x5 => if x5 < (x0.length : Int) then (if 0 ≤ x5 then (if (rd x0 x5) = x1 then (some true) else (spec_l4Has.l0 k x0 x1 (wrap64 (x5 + 1)))) else (none)) else (some false)
def spec_l4Has.f (k : Nat) (l0 : List Int) (a1 : Int) : Option (Bool) := spec_l4Has.l0 k l0 a1 0
set_option maxHeartbeats 8000000 in
set_option maxRecDepth 100000 in
theorem spec_l4Has.calls (k : Nat) (A0 : Option Addr) (c0 : Nat) (l0 : List Int) (a1 : Int) (r : Bool) (w : World) (hr0 : Kd.C (Kd.int .i64) w A0 l0.length l0) (hc0 : l0.length ≤ c0) (h : spec_l4Has.f k l0 a1 = some r) :
 Calls Try.prog 61 #[.slice A0 l0.length c0, .int .i64 a1] w fun e w' => e = .returned (.bool r) ∧ Drawn0 w w' := by
 have HR0 := Aside0.mk hr0
 have HC0 := Aside0.mk hc0
 clear hr0 hc0
 have H : (spec_l4Has.l0 k l0 a1 0) = some r := h
 clear h
 have H' := Aside0.mk H
 clear H
 go_enter Try.func61, Try.ntmps61
 go_wp2
 go_loopg [5] k (fun kq v5 w' => ∃ (x5_1 : Int), v5 = .int .i64 x5_1 ∧ Aside0 (spec_l4Has.l0 kq l0 a1 x5_1 = some r) ∧ Aside0 (kq ≤ k) ∧ Drawn0 w w')
 case atStart => exact ⟨(0), (by first | rfl | (simp; done) | (simp [*]; done)), H', ⟨Nat.le_refl _⟩, by repeat (first | exact Drawn0.refl _ | apply Drawn0.step)⟩
 case round =>
  clear H'
  try clear p2
  obtain ⟨x5_1, rfl, HA, HK1, ⟨m1, rfl⟩⟩ := hrel
  cases gk with
  | zero => exact absurd HA.out (by simp [spec_l4Has.l0])
  | succ k1 =>
   have H := HA.out
   clear HA
   simp only [spec_l4Has.l0] at H
   by_cases c3 : x5_1 < (l0.length : Int)
   ·
    rw [if_pos c3] at H
    have c3b0 : decide (x5_1 < (l0.length : Int)) = true := decide_eq_true c3
    clear c3
    by_cases c4 : 0 ≤ x5_1
    ·
     rw [if_pos c4] at H
     have c4b0 : decide (0 ≤ x5_1) = true := decide_eq_true c4
     clear c4
     by_cases c5 : (rd l0 x5_1) = a1
     ·
      rw [if_pos c5] at H
      have c5b0 : ((rd l0 x5_1) == a1) = true := beq_iff_eq.mpr c5
      have c5b1 : ((rd l0 x5_1) != a1) = false := bne_eq_false_iff_eq.mpr c5
      clear c5
      obtain rfl := Option.some.inj H
      have p372 : 0 ≤ (x5_1 : Int) := of_decide_eq_true (by first | (with_reducible assumption) | assumption)
      have q372 : x5_1 < (l0.length : Int) := of_decide_eq_true (by first | (with_reducible assumption) | assumption)
      obtain ⟨ad372, e372, hx372_0⟩ := Kd.at_int HR0.out x5_1 p372 q372
      cases e372
      replace p372 := eq_true p372
      replace q372 := eq_true q372
      go_wp2
      go_ret
      exact ⟨by first | rfl | (simp; done) | (simp [*]; done), by repeat (first | exact Drawn0.refl _ | apply Drawn0.step)⟩
     ·
      rw [if_neg c5] at H
      have c5b0 : ((rd l0 x5_1) == a1) = false := beq_eq_false_iff_ne.mpr c5
      have c5b1 : ((rd l0 x5_1) != a1) = true := bne_iff_ne.mpr c5
      have H' := Aside0.mk H
      clear H
      have p372 : 0 ≤ (x5_1 : Int) := of_decide_eq_true (by first | (with_reducible assumption) | assumption)
      have q372 : x5_1 < (l0.length : Int) := of_decide_eq_true (by first | (with_reducible assumption) | assumption)
      obtain ⟨ad372, e372, hx372_0⟩ := Kd.at_int HR0.out x5_1 p372 q372
      cases e372
      replace p372 := eq_true p372
      replace q372 := eq_true q372
      go_wp2
      go_roundg k1
      case measure => have := HK1.out; omega
      case rel => exact ⟨(wrap64 (x5_1 + 1)), (by first | rfl | (simp; done) | (simp [*]; done)), H', ⟨by have := HK1.out; omega⟩, by repeat (first | exact Drawn0.refl _ | apply Drawn0.step)⟩
    ·
     rw [if_neg c4] at H
     exact absurd H (by simp)
   ·
    rw [if_neg c3] at H
    have c3b0 : decide (x5_1 < (l0.length : Int)) = false := decide_eq_false c3
    clear c3
    obtain rfl := Option.some.inj H
    go_wp2
    go_ret
    exact ⟨by first | rfl | (simp; done) | (simp [*]; done), by repeat (first | exact Drawn0.refl _ | apply Drawn0.step)⟩
end Go.Proofs.Ytpcjpjjkaplebaa.P
