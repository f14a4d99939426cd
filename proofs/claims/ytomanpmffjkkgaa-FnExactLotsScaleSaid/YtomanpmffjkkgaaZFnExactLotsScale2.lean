/- What the law FnExactLotsScale leans on, cut out of this repo's own texts by a program of this repo: plain functions, the walks that tie the Go calls to them, the law over lists and numbers, and the row. -/
import Derived.Test.YtomanpmffjkkgaaZFnExactLotsScale1
namespace Go.Proofs.Ytomanpmffjkkgaa
section
open Go Go.RowKit Go.Proofs.YtomanpmffjkkgaaW.PrintWords Go.Proofs.YtomanpmffjkkgaaW.PrintLast Go.Proofs.YtomanpmffjkkgaaW.PrintMore
theorem cl_ {w W : World} {p : Addr} {v : Value} (hb : Below w.heap.size w W) (h : w.cell? p = some v) : W.cell? p = some v := (hb.cell (World.block_lt_of_cell? w _ h)).trans h
end
end Go.Proofs.Ytomanpmffjkkgaa
namespace Go.Proofs.Ytomanpmffjkkgaa.P
open Go.RowKit Go.Proofs.YtomanpmffjkkgaaW.PrintWords Go.Proofs.YtomanpmffjkkgaaW.PrintLast Go.Proofs.YtomanpmffjkkgaaW.PrintMore
attribute [local go_sem] max2_int min2_int max_two min_two max_three min_three max_four min_four   -- for this text's walks alone
set_option linter.unusedVariables false
set_option linter.unusedSimpArgs false
def laws_toLot.f (a0_0 : Int) (a0_1 : Int) (a0_2 : Int) (a0_3 : Int) (a0_4 : Int) : Option (Int × Int × Int × Int × Int) := some (a0_0, a0_1, a0_2, a0_3, a0_4)
set_option maxHeartbeats 8000000 in
set_option maxRecDepth 100000 in
theorem laws_toLot.calls (a0_0 : Int) (a0_1 : Int) (a0_2 : Int) (a0_3 : Int) (a0_4 : Int) (r1 : Int) (r2 : Int) (r3 : Int) (r4 : Int) (r5 : Int) (w : World) (h : laws_toLot.f a0_0 a0_1 a0_2 a0_3 a0_4 = some (r1, r2, r3, r4, r5)) :
 Calls Try.prog 28 #[.agg #[.int .i64 a0_0, .int .i64 a0_1, .int .i64 a0_2, .int .i64 a0_3, .int .i64 a0_4]] w fun e w' => e = .returned (.agg #[.int .i64 r1, .int .i64 r2, .int .i64 r3, .int .i64 r4, .int .i64 r5]) ∧ Below w.heap.size w w' := by
 have hu34 := Try.underlying34
 have hu37 := Try.underlying37
 have HB := Aside0.mk (Below.refl w.heap.size w)
 have H : (some (a0_0, a0_1, a0_2, a0_3, a0_4)) = some (r1, r2, r3, r4, r5) := h
 clear h
 simp only [Option.some.injEq, Prod.mk.injEq] at H
 obtain ⟨rfl, rfl, rfl, rfl, rfl⟩ := H
 go_enter Try.func28, Try.ntmps28
 go_wp2_with (first | ((with_reducible refine gate_dst (N := 1) rfl ?_); refine be_ 1 (cs := #[.int .i64 a0_0, .int .i64 a0_1, .int .i64 a0_2, .int .i64 a0_3, .int .i64 a0_4]) (t := 34) ?_; intro gb122 hg w2 hbox hb; have n0_ := Aside0.mk (below_step (bb_) hb); have n1_ := Aside0.mk (hbox); have n2_ := Aside0.mk ((gs_ hg : w.heap.size ≤ gb122)); have n3_ := Aside0.mk ((gs_ hg : w.heap.size ≤ gb122)); clear HB; have HB := n0_; have BK122 := n1_; have GW122 := n2_; have GE122 := n3_; clear n0_ n1_ n2_ n3_; clear hb hbox hg) | ((with_reducible refine gate_dst (N := 2) rfl ?_); refine be_ 2 (cs := #[.int .i64 0, .int .i64 0, .int .i64 0, .int .i64 0, .int .i64 0]) (t := 37) ?_; intro gb123 hg w3 hbox hb; have n0_ := Aside0.mk (blk_below (g := gb122) (o := .cells #[.int .i64 a0_0, .int .i64 a0_1, .int .i64 a0_2, .int .i64 a0_3, .int .i64 a0_4] 34 (0, 0)) (pb_ BK122.out) hb); have n1_ := Aside0.mk (below_step (bg_ GE122.out) hb); have n2_ := Aside0.mk (hbox); have n3_ := Aside0.mk ((by rw [hg]; exact (below_size (bg_ GE122.out)) : w.heap.size ≤ gb123)); have n4_ := Aside0.mk ((by rw [hg]; exact (below_size (bg_ GE122.out)) : w.heap.size ≤ gb123)); have n5_ := Aside0.mk ((by rw [hg]; exact Nat.ne_of_lt (blk_lt (g := gb122) (o := .cells #[.int .i64 a0_0, .int .i64 a0_1, .int .i64 a0_2, .int .i64 a0_3, .int .i64 a0_4] 34 (0, 0)) (pb_ BK122.out)) : gb122 ≠ gb123)); have n6_ := Aside0.mk ((by rw [hg]; exact Nat.ne_of_gt (blk_lt (g := gb122) (o := .cells #[.int .i64 a0_0, .int .i64 a0_1, .int .i64 a0_2, .int .i64 a0_3, .int .i64 a0_4] 34 (0, 0)) (pb_ BK122.out)) : gb123 ≠ gb122)); clear BK122; clear HB; have BK122 := n0_; have HB := n1_; have BK123 := n2_; have GW123 := n3_; have GE123 := n4_; have NB122_123 := n5_; have NB123_122 := n6_; clear n0_ n1_ n2_ n3_ n4_ n5_ n6_; clear hb hbox hg) | ((with_reducible refine gate_dst (N := 3) rfl ?_); refine be_ 3 (cs := #[.int .i64 0, .int .i64 0, .int .i64 0, .int .i64 0, .int .i64 0]) (t := 37) ?_; intro gb124 hg w4 hbox hb; have n0_ := Aside0.mk (blk_below (g := gb122) (o := .cells #[.int .i64 a0_0, .int .i64 a0_1, .int .i64 a0_2, .int .i64 a0_3, .int .i64 a0_4] 34 (0, 0)) (pb_ BK122.out) hb); have n1_ := Aside0.mk (blk_below (g := gb123) (o := .cells #[.int .i64 0, .int .i64 0, .int .i64 0, .int .i64 0, .int .i64 0] 37 (0, 0)) (pb_ BK123.out) hb); have n2_ := Aside0.mk (below_step (by repeat (first | (with_reducible first | exact HB.out | apply below_alloc | apply pw_below_drewN | apply below_drew1 | refine below_set ?_ GE122.out | refine below_set ?_ GE123.out) | exact HB.out)) hb); have n3_ := Aside0.mk (hbox); have n4_ := Aside0.mk ((gs_ hg : w.heap.size ≤ gb124)); have n5_ := Aside0.mk ((gs_ hg : w.heap.size ≤ gb124)); have n6_ := Aside0.mk ((by rw [hg]; exact Nat.ne_of_lt (blk_lt (g := gb122) (o := .cells #[.int .i64 a0_0, .int .i64 a0_1, .int .i64 a0_2, .int .i64 a0_3, .int .i64 a0_4] 34 (0, 0)) (pb_ BK122.out)) : gb122 ≠ gb124)); have n7_ := Aside0.mk ((by rw [hg]; exact Nat.ne_of_gt (blk_lt (g := gb122) (o := .cells #[.int .i64 a0_0, .int .i64 a0_1, .int .i64 a0_2, .int .i64 a0_3, .int .i64 a0_4] 34 (0, 0)) (pb_ BK122.out)) : gb124 ≠ gb122)); have n8_ := Aside0.mk ((by rw [hg]; exact Nat.ne_of_lt (blk_lt (g := gb123) (o := .cells #[.int .i64 0, .int .i64 0, .int .i64 0, .int .i64 0, .int .i64 0] 37 (0, 0)) (pb_ BK123.out)) : gb123 ≠ gb124)); have n9_ := Aside0.mk ((by rw [hg]; exact Nat.ne_of_gt (blk_lt (g := gb123) (o := .cells #[.int .i64 0, .int .i64 0, .int .i64 0, .int .i64 0, .int .i64 0] 37 (0, 0)) (pb_ BK123.out)) : gb124 ≠ gb123)); clear BK122; clear BK123; clear HB; have BK122 := n0_; have BK123 := n1_; have HB := n2_; have BK124 := n3_; have GW124 := n4_; have GE124 := n5_; have NB122_124 := n6_; have NB124_122 := n7_; have NB123_124 := n8_; have NB124_123 := n9_; clear n0_ n1_ n2_ n3_ n4_ n5_ n6_ n7_ n8_ n9_; clear hb hbox hg; have hnb5 := NB122_123.out; have hnc5 := NB123_122.out; have hnb6 := NB122_124.out; have hnc6 := NB124_122.out; obtain ⟨hcz7_0, hcz7_1, hcz7_2, hcz7_3, hcz7_4, hfz7_0, hfz7_1, hfz7_2, hfz7_3, hfz7_4⟩ := ce5_ BK122.out; have hnb8 := NB124_123.out; have hnc8 := NB123_124.out; obtain ⟨hcz9_0, hcz9_1, hcz9_2, hcz9_3, hcz9_4, hfz9_0, hfz9_1, hfz9_2, hfz9_3, hfz9_4⟩ := ce5_ BK124.out; obtain ⟨hcz10_0, hcz10_1, hcz10_2, hcz10_3, hcz10_4, hfz10_0, hfz10_1, hfz10_2, hfz10_3, hfz10_4⟩ := ce5_ BK123.out))
 refine bodyPost_ret (results_cell_row rfl _ _ gb123 37 #[.int .i64 a0_0, .int .i64 a0_1, .int .i64 a0_2, .int .i64 a0_3, .int .i64 a0_4] (0, 0) _ rfl (by (with_reducible repeat (first | refine blk_drewN ?_ _ | refine blk_drew ?_ | refine blk_alloc ?_ _)); refine blk_put (cs := #[.int .i64 a0_0, .int .i64 a0_1, .int .i64 a0_2, .int .i64 a0_3, .int .i64 0]) ?_ 4 _ rfl; (with_reducible repeat (first | refine blk_drewN ?_ _ | refine blk_drew ?_ | refine blk_alloc ?_ _)); refine blk_put (cs := #[.int .i64 a0_0, .int .i64 a0_1, .int .i64 a0_2, .int .i64 0, .int .i64 0]) ?_ 3 _ rfl; (with_reducible repeat (first | refine blk_drewN ?_ _ | refine blk_drew ?_ | refine blk_alloc ?_ _)); refine blk_put (cs := #[.int .i64 a0_0, .int .i64 a0_1, .int .i64 0, .int .i64 0, .int .i64 0]) ?_ 2 _ rfl; (with_reducible repeat (first | refine blk_drewN ?_ _ | refine blk_drew ?_ | refine blk_alloc ?_ _)); refine blk_put (cs := #[.int .i64 a0_0, .int .i64 0, .int .i64 0, .int .i64 0, .int .i64 0]) ?_ 1 _ rfl; (with_reducible repeat (first | refine blk_drewN ?_ _ | refine blk_drew ?_ | refine blk_alloc ?_ _)); refine blk_put (cs := #[.int .i64 0, .int .i64 0, .int .i64 0, .int .i64 0, .int .i64 0]) ?_ 0 _ rfl; (with_reducible repeat (first | refine blk_drewN ?_ _ | refine blk_drew ?_ | refine blk_alloc ?_ _)); refine blk_far ?_ NB123_124.out _; (with_reducible repeat (first | refine blk_drewN ?_ _ | refine blk_drew ?_ | refine blk_alloc ?_ _)); refine blk_far ?_ NB123_124.out _; (with_reducible repeat (first | refine blk_drewN ?_ _ | refine blk_drew ?_ | refine blk_alloc ?_ _)); refine blk_far ?_ NB123_124.out _; (with_reducible repeat (first | refine blk_drewN ?_ _ | refine blk_drew ?_ | refine blk_alloc ?_ _)); refine blk_far ?_ NB123_124.out _; (with_reducible repeat (first | refine blk_drewN ?_ _ | refine blk_drew ?_ | refine blk_alloc ?_ _)); refine blk_far ?_ NB123_124.out _; (with_reducible repeat (first | refine blk_drewN ?_ _ | refine blk_drew ?_ | refine blk_alloc ?_ _)); exact BK123.out) Try.underlying37 rfl kr_) rfl ?_
 exact ⟨er_, by repeat (first | (with_reducible first | exact HB.out | apply below_alloc | apply pw_below_drewN | apply below_drew1 | refine below_set ?_ GE122.out | refine below_set ?_ GE123.out | refine below_set ?_ GE124.out) | exact HB.out)⟩
def laws_toLotS.l0 : Nat → List (S34) → List (S37) → Int → Option ((List (S37)))
 | 0, _, _, _ => none
 | k + 1, x0, x3, x4 => if x4 < (x0.length : Int) then (if 0 ≤ x4 then ((laws_toLot.f ((rd_T34 x0 x4).f0) ((rd_T34 x0 x4).f1) ((rd_T34 x0 x4).f2) ((rd_T34 x0 x4).f3) ((rd_T34 x0 x4).f4)).bind fun bt129 => (if x4 < (x3.length : Int) then (laws_toLotS.l0 k x0 (x3.set (x4 : Int).toNat (⟨bt129.1, bt129.2.1, bt129.2.2.1, bt129.2.2.2.1, bt129.2.2.2.2⟩ : S37)) (wrap64 (x4 + 1))) else (none))) else (none)) else (some x3)
def laws_toLotS.f (k : Nat) (l0 : List (S34)) : Option ((List (S37))) := if 0 ≤ (l0.length : Int) then (if ((l0.length : Int) : Int).toNat ≤ 7036874417766 then (laws_toLotS.l0 k l0 (List.replicate ((l0.length : Int) : Int).toNat z37) 0) else (none)) else (none)
set_option maxHeartbeats 8000000 in
set_option maxRecDepth 100000 in
theorem laws_toLotS.calls (k : Nat) (A0 : Option Addr) (c0 : Nat) (l0 : List (S34)) (r : List (S37)) (w : World) (hr0 : Kd.C k34 w A0 l0.length l0) (hc0 : l0.length ≤ c0) (h : laws_toLotS.f k l0 = some r) :
 Calls Try.prog 16 #[.slice A0 l0.length c0] w fun e w' => ∃ v0_ : Value, e = .returned (v0_) ∧ Kd.R k37 37 w' w.heap.size (fun _ => True) v0_ r ∧ Below w.heap.size w w' := by
 have hu34 := Try.underlying34
 have hu37 := Try.underlying37
 have HR0 := Aside0.mk hr0
 have HC0 := Aside0.mk hc0
 clear hr0 hc0
 have HB := Aside0.mk (Below.refl w.heap.size w)
 have H : (if 0 ≤ (l0.length : Int) then (if ((l0.length : Int) : Int).toNat ≤ 7036874417766 then (laws_toLotS.l0 k l0 (List.replicate ((l0.length : Int) : Int).toNat z37) 0) else (none)) else (none)) = some r := h
 clear h
 by_cases c2 : 0 ≤ (l0.length : Int)
 ·
  rw [if_pos c2] at H
  have c2b0 := eq_true c2
  have c2b1 : decide (0 ≤ (l0.length : Int)) = true := decide_eq_true c2
  clear c2
  by_cases c3 : ((l0.length : Int) : Int).toNat ≤ 7036874417766
  ·
   rw [if_pos c3] at H
   have c3b0 := eq_true c3
   have c3b1 : decide (((l0.length : Int) : Int).toNat ≤ 7036874417766) = true := decide_eq_true c3
   clear c3
   obtain ⟨y125, hy125⟩ : ∃ y_ : List (S37), y_ = (List.replicate ((l0.length : Int) : Int).toNat z37) := ⟨_, rfl⟩
   replace H : (laws_toLotS.l0 k l0 y125 0) = some r := rh_ hy125 H
   have Ny125 := Aside0.mk hy125
   clear hy125
   have H' := Aside0.mk H
   clear H
   go_enter Try.func16, Try.ntmps16
   go_wp2_with (first | ((with_reducible refine gate_dst (N := 7) rfl ?_); refine Kd.R_make k37 _ 37 rfl (N := 7) rfl 25 _ _ rfl (l0.length : Int) rfl rfl Try.underlying25 (.agg #[(.int .i64 0), (.int .i64 0), (.int .i64 0), (.int .i64 0), (.int .i64 0)]) 40 info37 rfl (by decide) (by omega) z37 (ok := fun _ => True) (okp := fun _ => True) (k37_mkM _ _ _ z37 ) (fun _ hk => hk) trivial (od_) (Nat.le_trans (Nat.mul_le_mul_right _ (od_ : (l0.length : Int).toNat ≤ 7036874417766)) (by omega)) (Below.refl _ _) (Nat.le_refl _) ?_; intro v126 w4 ho5 hb hg_ hnew_; clear hg_ hnew_; (first | rw [← Ny125.out] at ho5 | (simp only [Int.reduceToNat] at ho5; rw [← Ny125.out] at ho5)); have n0_ := Aside0.mk (Kd.R_lower ho5 (below_size (bb_))); have n1_ := Aside0.mk (below_step (bb_) hb); clear HB; have HO127 := n0_; have HB := n1_; clear n0_ n1_; clear hb ho5))
   go_loopg [4] k (fun kq v4 w' => ∃ (x3_1 : List (S37)) (x4_1 : Int), v4 = .int .i64 x4_1 ∧ Aside0 (laws_toLotS.l0 kq l0 x3_1 x4_1 = some r) ∧ Aside0 (kq ≤ k) ∧ Aside0 (Kd.R k37 37 w' w.heap.size (fun _ => True) v126 x3_1) ∧ Aside0 (Below w.heap.size w w'))
   case atStart => exact ⟨(y125), (0), (by first | rfl | (simp; done) | (simp [*]; done)), H', ⟨Nat.le_refl _⟩, ⟨by (with_reducible repeat (first | apply Kd.R_alloc | apply Kd.R_drewN | apply Kd.R_drew)); exact HO127.out⟩, ⟨bb_⟩⟩
   case round =>
    clear H'
    try clear c1
    try clear c2b0
    try clear c2b1
    try clear p2
    try clear c3b0
    try clear c3b1
    obtain ⟨x3_1, x4_1, rfl, HA, HK1, HO_3, HB⟩ := hrel
    cases gk with
    | zero => exact absurd HA.out (by simp [laws_toLotS.l0])
    | succ k1 =>
     have H := HA.out
     clear HA
     simp only [laws_toLotS.l0] at H
     by_cases c6 : x4_1 < (l0.length : Int)
     ·
      rw [if_pos c6] at H
      have c6b0 : decide (x4_1 < (l0.length : Int)) = true := decide_eq_true c6
      clear c6
      by_cases c7 : 0 ≤ x4_1
      ·
       rw [if_pos c7] at H
       have c7b0 : decide (0 ≤ x4_1) = true := decide_eq_true c7
       clear c7
       replace H := Option.bind_eq_some_iff.mp H
       obtain ⟨⟨t129, t130, t131, t132, t133⟩, A80, H⟩ := H
       replace H : (if x4_1 < (x3_1.length : Int) then (laws_toLotS.l0 k1 l0 (x3_1.set (x4_1 : Int).toNat (⟨t129, t130, t131, t132, t133⟩ : S37)) (wrap64 (x4_1 + 1))) else (none)) = some r := H
       have A8 := Aside0.mk A80
       clear A80
       by_cases c9 : x4_1 < (x3_1.length : Int)
       ·
        rw [if_pos c9] at H
        have c9b0 : decide (x4_1 < (x3_1.length : Int)) = true := decide_eq_true c9
        clear c9
        obtain ⟨y134, hy134⟩ : ∃ y_ : List (S37), y_ = (x3_1.set (x4_1 : Int).toNat (⟨t129, t130, t131, t132, t133⟩ : S37)) := ⟨_, rfl⟩
        replace H : (laws_toLotS.l0 k1 l0 y134 (wrap64 (x4_1 + 1))) = some r := rh_ hy134 H
        have Ny134 := Aside0.mk hy134
        clear hy134
        have H' := Aside0.mk H
        clear H
        have p128 : 0 ≤ (x4_1 : Int) := od_
        have q128 : x4_1 < (l0.length : Int) := od_
        obtain ⟨ad128, e128, hx128_0, hx128_1, hx128_2, hx128_3, hx128_4⟩ := at_T34 HR0.out x4_1 p128 q128
        cases e128
        replace hx128_0 := cl_ HB.out hx128_0
        replace hx128_1 := cl_ HB.out hx128_1
        replace hx128_2 := cl_ HB.out hx128_2
        replace hx128_3 := cl_ HB.out hx128_3
        replace hx128_4 := cl_ HB.out hx128_4
        replace p128 := eq_true p128
        replace q128 := eq_true q128
        go_wp2_with (first | ((with_reducible refine gate_callee (f := 28) rfl ?_); refine goesL_ (some 20) rfl rfl Try.func28 kr_ rfl #[.agg #[.int .i64 ((rd_T34 l0 x4_1).f0), .int .i64 ((rd_T34 l0 x4_1).f1), .int .i64 ((rd_T34 l0 x4_1).f2), .int .i64 ((rd_T34 l0 x4_1).f3), .int .i64 ((rd_T34 l0 x4_1).f4)]] rfl (bc_) ?_; (with_reducible refine (laws_toLot.calls ((rd_T34 l0 x4_1).f0) ((rd_T34 l0 x4_1).f1) ((rd_T34 l0 x4_1).f2) ((rd_T34 l0 x4_1).f3) ((rd_T34 l0 x4_1).f4) t129 t130 t131 t132 t133 _ A8.out).mono ?_); rintro e w11 ⟨rfl, hb⟩; refine ⟨_, rfl, ?_⟩; have n0_ := Aside0.mk (Kd.R_below (pe_ HO_3.out) hb); have n1_ := Aside0.mk (below_step (bb_) hb); clear HO_3; clear HB; have HO_3 := n0_; have HB := n1_; clear n0_ n1_; (try clear hb); (try clear hb2); (try clear hk); (try clear hi); have p10 : 0 ≤ (x4_1 : Int) := od_; have q10 : (x4_1 : Int) < ((x3_1.length : Int) : Int) := od_; obtain ⟨go10, co10, eo10, gb10, gl10, cl10, HG10⟩ := Kd.R_form HO_3.out (by omega); (first | cases eo10 | (injection eo10 with ea_ en_ ec_; (first | subst ea_ | (injection ea_ with ea_; subst ea_)); subst ec_; clear en_)); have GB10 := Aside0.mk gb10; have GG10 := Aside0.mk HG10; clear gb10 gl10 HG10; obtain ⟨ce10, hcl10, hM10, hcc10, hfr10⟩ := Kd.R_elem HO_3.out z37 (x4_1 : Int) p10 q10; obtain rfl := k37_openM hM10; have hx10_0 : w11.cell? ⟨go10, (x4_1 : Int).toNat * 5, none⟩ = some (.int .i64 ((rd_T37 x3_1 x4_1).f0)) := hcc10 0 _ rfl; have hx10_1 : w11.cell? ⟨go10, (x4_1 : Int).toNat * 5 + 1, none⟩ = some (.int .i64 ((rd_T37 x3_1 x4_1).f1)) := hcc10 1 _ rfl; have hx10_2 : w11.cell? ⟨go10, (x4_1 : Int).toNat * 5 + 2, none⟩ = some (.int .i64 ((rd_T37 x3_1 x4_1).f2)) := hcc10 2 _ rfl; have hx10_3 : w11.cell? ⟨go10, (x4_1 : Int).toNat * 5 + 3, none⟩ = some (.int .i64 ((rd_T37 x3_1 x4_1).f3)) := hcc10 3 _ rfl; have hx10_4 : w11.cell? ⟨go10, (x4_1 : Int).toNat * 5 + 4, none⟩ = some (.int .i64 ((rd_T37 x3_1 x4_1).f4)) := hcc10 4 _ rfl; have hf10_0 : w11.frozen? ⟨go10, (x4_1 : Int).toNat * 5, none⟩ = false := hfr10 0; have hf10_1 : w11.frozen? ⟨go10, (x4_1 : Int).toNat * 5 + 1, none⟩ = false := hfr10 1; have hf10_2 : w11.frozen? ⟨go10, (x4_1 : Int).toNat * 5 + 2, none⟩ = false := hfr10 2; have hf10_3 : w11.frozen? ⟨go10, (x4_1 : Int).toNat * 5 + 3, none⟩ = false := hfr10 3; have hf10_4 : w11.frozen? ⟨go10, (x4_1 : Int).toNat * 5 + 4, none⟩ = false := hfr10 4; clear hcl10 hcc10 hfr10 hM10; replace p10 := eq_true p10; replace q10 := eq_true q10; have HX12 := Aside0.mk (show Kd.R k37 37 w11 w.heap.size (fun _ => True) (.slice (some ⟨go10, 0, none⟩) x3_1.length co10) x3_1 from (pe_ HO_3.out)); obtain ⟨ce12, hcl12, hM12, hcc12, hfr12⟩ := Kd.R_elem HX12.out z37 (x4_1 : Int) (od_) (by have h_ : (x4_1 : Int) < ((x3_1.length : Int) : Int) := od_; first | exact h_ | (have e_ := (Kd.R_reads' HO_3.out).1; omega) | simpa using h_); obtain rfl := k37_openM hM12; have HP12 := Kd.R_seg HX12.out (x4_1 : Int) (od_) (by have h_ : (x4_1 : Int) < ((x3_1.length : Int) : Int) := od_; first | exact h_ | (have e_ := (Kd.R_reads' HO_3.out).1; omega) | simpa using h_) (seg := [.int .i64 t129, .int .i64 t130, .int .i64 t131, .int .i64 t132, .int .i64 t133]) (j := 0) hcl12 hcc12 (show 5 ≤ 5 from by decide) (x' := (⟨t129, t130, t131, t132, t133⟩ : S37)) (k37_mkM _ _ _ (⟨t129, t130, t131, t132, t133⟩ : S37) ) (fun _ hk => hk); have hx12_0 := hcc12 0 _ rfl; (try simp only [show (k37).sz = 5 from rfl, Nat.mul_one, Nat.add_zero] at hx12_0); have hf12_0 := hfr12 0; (try simp only [show (k37).sz = 5 from rfl, Nat.mul_one, Nat.add_zero] at hf12_0); have hx12_1 := hcc12 1 _ rfl; (try simp only [show (k37).sz = 5 from rfl, Nat.mul_one, Nat.add_zero] at hx12_1); have hf12_1 := hfr12 1; (try simp only [show (k37).sz = 5 from rfl, Nat.mul_one, Nat.add_zero] at hf12_1); have hx12_2 := hcc12 2 _ rfl; (try simp only [show (k37).sz = 5 from rfl, Nat.mul_one, Nat.add_zero] at hx12_2); have hf12_2 := hfr12 2; (try simp only [show (k37).sz = 5 from rfl, Nat.mul_one, Nat.add_zero] at hf12_2); have hx12_3 := hcc12 3 _ rfl; (try simp only [show (k37).sz = 5 from rfl, Nat.mul_one, Nat.add_zero] at hx12_3); have hf12_3 := hfr12 3; (try simp only [show (k37).sz = 5 from rfl, Nat.mul_one, Nat.add_zero] at hf12_3); have hx12_4 := hcc12 4 _ rfl; (try simp only [show (k37).sz = 5 from rfl, Nat.mul_one, Nat.add_zero] at hx12_4); have hf12_4 := hfr12 4; (try simp only [show (k37).sz = 5 from rfl, Nat.mul_one, Nat.add_zero] at hf12_4); clear hcl12 hcc12 hfr12 hM12) | ((with_reducible refine gate_store (t := 37) (p := 21) rfl ?_); refine store_event (t := 37) (p := 21) (v := ?vo_w13) (w1 := (((((w11.setCell ⟨go10, (x4_1 : Int).toNat * 5, none⟩ (.int .i64 t129)).setCell ⟨go10, (x4_1 : Int).toNat * 5 + 1, none⟩ (.int .i64 t130)).setCell ⟨go10, (x4_1 : Int).toNat * 5 + 2, none⟩ (.int .i64 t131)).setCell ⟨go10, (x4_1 : Int).toNat * 5 + 3, none⟩ (.int .i64 t132)).setCell ⟨go10, (x4_1 : Int).toNat * 5 + 4, none⟩ (.int .i64 t133))) ?hg ?ho ?hn ?hr ?_; (case ho => rfl); (case hg => rfl); (case hn => rfl); (case hr => first | (go_simp; done) | (go_simp; rfl)); intro w13 hw; have hg : w11.grownBy w13 (some go10) := (by rw [hw]; exact HP12.2); have hp_ : Kd.R k37 37 w13 w.heap.size (fun _ => True) (.slice (some ⟨go10, 0, none⟩) x3_1.length co10) y134 := (by rw [hw, Ny134.out]; exact HP12.1); clear HP12; have n0_ := Aside0.mk (hp_); have n1_ := Aside0.mk ((by rw [hw]; exact below_set (below_set (below_set (below_set (below_set (HB.out) GB10.out) GB10.out) GB10.out) GB10.out) GB10.out : Below w.heap.size w w13)); clear HO_3; clear HB; have HO_3 := n0_; have HB := n1_; clear n0_ n1_; clear hg hw hp_))
        go_roundg k1
        case measure => have := HK1.out; omega
        case rel => exact ⟨(y134), (wrap64 (x4_1 + 1)), (by first | rfl | (simp; done) | (simp [*]; done)), H', ⟨by have := HK1.out; omega⟩, ⟨by (with_reducible repeat (first | apply Kd.R_alloc | apply Kd.R_drewN | apply Kd.R_drew)); exact HO_3.out⟩, ⟨bb_⟩⟩
       ·
        rw [if_neg c9] at H
        exact absurd H (by simp)
      ·
       rw [if_neg c7] at H
       exact absurd H (by simp)
     ·
      rw [if_neg c6] at H
      have c6b0 : decide (x4_1 < (l0.length : Int)) = false := decide_eq_false c6
      clear c6
      obtain rfl := Option.some.inj H
      go_wp2
      go_ret
      exact ⟨_, er_, by (with_reducible repeat (first | apply Kd.R_alloc | apply Kd.R_drewN | apply Kd.R_drew)); exact HO_3.out, bb_⟩
  ·
   rw [if_neg c3] at H
   exact absurd H (by simp)
 ·
  rw [if_neg c2] at H
  exact absurd H (by simp)
def impl_in.f (a0 : Int) (a1 : Int) (a2 : Int) : Option (Bool) := if a0 ≥ a1 then (some (decide (a0 ≤ a2))) else (some false)
set_option maxHeartbeats 8000000 in
set_option maxRecDepth 100000 in
theorem impl_in.calls (a0 : Int) (a1 : Int) (a2 : Int) (r : Bool) (w : World) (h : impl_in.f a0 a1 a2 = some r) :
 Calls Try.prog 65 #[.int .i64 a0, .int .i64 a1, .int .i64 a2] w fun e w' => e = .returned (.bool r) ∧ Drawn0 w w' := by
 have H : (if a0 ≥ a1 then (some (decide (a0 ≤ a2))) else (some false)) = some r := h
 clear h
 by_cases c4 : a0 ≥ a1
 ·
  rw [if_pos c4] at H
  have c4b0 : decide (a1 ≤ a0) = true := decide_eq_true c4
  clear c4
  obtain rfl := Option.some.inj H
  go_enter Try.func65, Try.ntmps65
  go_wp2
  go_ret
  exact ⟨by first | rfl | (simp; done) | (simp [*]; done), by repeat (first | exact Drawn0.refl _ | apply Drawn0.step)⟩
 ·
  rw [if_neg c4] at H
  have c4b0 : decide (a1 ≤ a0) = false := decide_eq_false c4
  clear c4
  obtain rfl := Option.some.inj H
  go_enter Try.func65, Try.ntmps65
  go_wp2
  go_ret
  exact ⟨by first | rfl | (simp; done) | (simp [*]; done), by repeat (first | exact Drawn0.refl _ | apply Drawn0.step)⟩
def impl_isNo.f (a0 : Int) : Option (Bool) := (impl_in.f a0 1 1000).bind fun t135 => (some t135)
set_option maxHeartbeats 8000000 in
set_option maxRecDepth 100000 in
theorem impl_isNo.calls (a0 : Int) (r : Bool) (w : World) (h : impl_isNo.f a0 = some r) :
 Calls Try.prog 76 #[.int .i64 a0] w fun e w' => e = .returned (.bool r) ∧ Drawn0 w w' := by
 have H : ((impl_in.f a0 1 1000).bind fun t135 => (some t135)) = some r := h
 clear h
 replace H := Option.bind_eq_some_iff.mp H
 obtain ⟨t135, A20, H⟩ := H
 have A2 := Aside0.mk A20
 clear A20
 obtain rfl := Option.some.inj H
 go_enter Try.func76, Try.ntmps76
 go_wp2_with (first | ((with_reducible refine gate_callee (f := 65) rfl ?_); refine goesL_ (some 4) rfl rfl Try.func65 kr_ rfl #[.int .i64 a0, .int .i64 1, .int .i64 1000] rfl (bc_) ?_; (with_reducible refine (impl_in.calls a0 1 1000 t135 _ A2.out).mono ?_); rintro e w' ⟨rfl, ⟨nd, rfl⟩⟩; refine ⟨_, rfl, ?_⟩))
 go_ret
 exact ⟨by first | rfl | (simp; done) | (simp [*]; done), by repeat (first | exact Drawn0.refl _ | apply Drawn0.step)⟩
def impl_lotForm.f (a0_0 : Int) (a0_1 : Int) (a0_2 : Int) (a0_3 : Int) (a0_4 : Int) : Option (Bool) := (impl_isNo.f a0_0).bind fun t137 => (if t137 = true then ((impl_isNo.f a0_1).bind fun t138 => (if t138 = true then ((impl_in.f a0_2 1 1000000000).bind fun t139 => (if t139 = true then ((impl_in.f a0_3 1 1000000000000000).bind fun t140 => (if t140 = true then ((impl_in.f a0_4 0 1000000000000000).bind fun t141 => (some t141)) else (some false))) else (some false))) else (some false))) else (some false))
set_option maxHeartbeats 8000000 in
set_option maxRecDepth 100000 in
theorem impl_lotForm.calls (a0_0 : Int) (a0_1 : Int) (a0_2 : Int) (a0_3 : Int) (a0_4 : Int) (r : Bool) (w : World) (h : impl_lotForm.f a0_0 a0_1 a0_2 a0_3 a0_4 = some r) :
 Calls Try.prog 42 #[.agg #[.int .i64 a0_0, .int .i64 a0_1, .int .i64 a0_2, .int .i64 a0_3, .int .i64 a0_4]] w fun e w' => e = .returned (.bool r) ∧ Below w.heap.size w w' := by
 have hu37 := Try.underlying37
 have HB := Aside0.mk (Below.refl w.heap.size w)
 have H : ((impl_isNo.f a0_0).bind fun t137 => (if t137 = true then ((impl_isNo.f a0_1).bind fun t138 => (if t138 = true then ((impl_in.f a0_2 1 1000000000).bind fun t139 => (if t139 = true then ((impl_in.f a0_3 1 1000000000000000).bind fun t140 => (if t140 = true then ((impl_in.f a0_4 0 1000000000000000).bind fun t141 => (some t141)) else (some false))) else (some false))) else (some false))) else (some false))) = some r := h
 clear h
 replace H := Option.bind_eq_some_iff.mp H
 obtain ⟨t137, A20, H⟩ := H
 have A2 := Aside0.mk A20
 clear A20
 by_cases c3 : t137 = true
 ·
  subst c3
  have H1 := Eq.trans (if_pos rfl).symm H
  clear H
  have H := H1
  clear H1
  replace H := Option.bind_eq_some_iff.mp H
  obtain ⟨t138, A40, H⟩ := H
  have A4 := Aside0.mk A40
  clear A40
  by_cases c5 : t138 = true
  ·
   subst c5
   have H1 := Eq.trans (if_pos rfl).symm H
   clear H
   have H := H1
   clear H1
   replace H := Option.bind_eq_some_iff.mp H
   obtain ⟨t139, A60, H⟩ := H
   have A6 := Aside0.mk A60
   clear A60
   by_cases c7 : t139 = true
   ·
    subst c7
    have H1 := Eq.trans (if_pos rfl).symm H
    clear H
    have H := H1
    clear H1
    replace H := Option.bind_eq_some_iff.mp H
    obtain ⟨t140, A80, H⟩ := H
    have A8 := Aside0.mk A80
    clear A80
    by_cases c9 : t140 = true
    ·
     subst c9
     have H1 := Eq.trans (if_pos rfl).symm H
     clear H
     have H := H1
     clear H1
     replace H := Option.bind_eq_some_iff.mp H
     obtain ⟨t141, A100, H⟩ := H
     have A10 := Aside0.mk A100
     clear A100
     obtain rfl := Option.some.inj H
     go_enter Try.func42, Try.ntmps42
     go_wp2_with (first | ((with_reducible refine gate_dst (N := 1) rfl ?_); refine be_ 1 (cs := #[.int .i64 a0_0, .int .i64 a0_1, .int .i64 a0_2, .int .i64 a0_3, .int .i64 a0_4]) (t := 37) ?_; intro gb136 hg w11 hbox hb; have n0_ := Aside0.mk (below_step (bb_) hb); have n1_ := Aside0.mk (hbox); have n2_ := Aside0.mk ((gs_ hg : w.heap.size ≤ gb136)); have n3_ := Aside0.mk ((gs_ hg : w.heap.size ≤ gb136)); clear HB; have HB := n0_; have BK136 := n1_; have GW136 := n2_; have GE136 := n3_; clear n0_ n1_ n2_ n3_; clear hb hbox hg; obtain ⟨hcz12_0, hcz12_1, hcz12_2, hcz12_3, hcz12_4, hfz12_0, hfz12_1, hfz12_2, hfz12_3, hfz12_4⟩ := ce5_ BK136.out) | ((with_reducible refine gate_callee (f := 76) rfl ?_); refine goesL_ (some 5) rfl rfl Try.func76 kr_ rfl #[.int .i64 a0_0] rfl (bc_) ?_; (with_reducible refine (impl_isNo.calls a0_0 true _ A2.out).mono ?_); rintro e w' ⟨rfl, ⟨nd, rfl⟩⟩; refine ⟨_, rfl, ?_⟩) | (go_at_call 76; (with_reducible refine (impl_isNo.calls a0_1 true _ A4.out).mono ?_); rintro e w' ⟨rfl, ⟨nd, rfl⟩⟩) | (go_at_call 65; (with_reducible refine (impl_in.calls a0_2 1 1000000000 true _ A6.out).mono ?_); rintro e w' ⟨rfl, ⟨nd, rfl⟩⟩) | (go_at_call 65; (with_reducible refine (impl_in.calls a0_3 1 1000000000000000 true _ A8.out).mono ?_); rintro e w' ⟨rfl, ⟨nd, rfl⟩⟩) | (go_at_call 65; (with_reducible refine (impl_in.calls a0_4 0 1000000000000000 t141 _ A10.out).mono ?_); rintro e w' ⟨rfl, ⟨nd, rfl⟩⟩))
     go_ret
     exact ⟨er_, bg_ GE136.out⟩
    ·
     replace c9 := Bool.eq_false_iff.mpr c9
     subst c9
     have H1 := Eq.trans (if_neg nf_).symm H
     clear H
     have H := H1
     clear H1
     obtain rfl := Option.some.inj H
     go_enter Try.func42, Try.ntmps42
     go_wp2_with (first | ((with_reducible refine gate_dst (N := 1) rfl ?_); refine be_ 1 (cs := #[.int .i64 a0_0, .int .i64 a0_1, .int .i64 a0_2, .int .i64 a0_3, .int .i64 a0_4]) (t := 37) ?_; intro gb136 hg w13 hbox hb; have n0_ := Aside0.mk (below_step (bb_) hb); have n1_ := Aside0.mk (hbox); have n2_ := Aside0.mk ((gs_ hg : w.heap.size ≤ gb136)); have n3_ := Aside0.mk ((gs_ hg : w.heap.size ≤ gb136)); clear HB; have HB := n0_; have BK136 := n1_; have GW136 := n2_; have GE136 := n3_; clear n0_ n1_ n2_ n3_; clear hb hbox hg; obtain ⟨hcz14_0, hcz14_1, hcz14_2, hcz14_3, hcz14_4, hfz14_0, hfz14_1, hfz14_2, hfz14_3, hfz14_4⟩ := ce5_ BK136.out) | ((with_reducible refine gate_callee (f := 76) rfl ?_); refine goesL_ (some 5) rfl rfl Try.func76 kr_ rfl #[.int .i64 a0_0] rfl (bc_) ?_; (with_reducible refine (impl_isNo.calls a0_0 true _ A2.out).mono ?_); rintro e w' ⟨rfl, ⟨nd, rfl⟩⟩; refine ⟨_, rfl, ?_⟩) | (go_at_call 76; (with_reducible refine (impl_isNo.calls a0_1 true _ A4.out).mono ?_); rintro e w' ⟨rfl, ⟨nd, rfl⟩⟩) | (go_at_call 65; (with_reducible refine (impl_in.calls a0_2 1 1000000000 true _ A6.out).mono ?_); rintro e w' ⟨rfl, ⟨nd, rfl⟩⟩) | (go_at_call 65; (with_reducible refine (impl_in.calls a0_3 1 1000000000000000 false _ A8.out).mono ?_); rintro e w' ⟨rfl, ⟨nd, rfl⟩⟩))
     go_ret
     exact ⟨er_, bg_ GE136.out⟩
   ·
    replace c7 := Bool.eq_false_iff.mpr c7
    subst c7
    have H1 := Eq.trans (if_neg nf_).symm H
    clear H
    have H := H1
    clear H1
    obtain rfl := Option.some.inj H
    go_enter Try.func42, Try.ntmps42
    go_wp2_with (first | ((with_reducible refine gate_dst (N := 1) rfl ?_); refine be_ 1 (cs := #[.int .i64 a0_0, .int .i64 a0_1, .int .i64 a0_2, .int .i64 a0_3, .int .i64 a0_4]) (t := 37) ?_; intro gb136 hg w15 hbox hb; have n0_ := Aside0.mk (below_step (bb_) hb); have n1_ := Aside0.mk (hbox); have n2_ := Aside0.mk ((gs_ hg : w.heap.size ≤ gb136)); have n3_ := Aside0.mk ((gs_ hg : w.heap.size ≤ gb136)); clear HB; have HB := n0_; have BK136 := n1_; have GW136 := n2_; have GE136 := n3_; clear n0_ n1_ n2_ n3_; clear hb hbox hg; obtain ⟨hcz16_0, hcz16_1, hcz16_2, hcz16_3, hcz16_4, hfz16_0, hfz16_1, hfz16_2, hfz16_3, hfz16_4⟩ := ce5_ BK136.out) | ((with_reducible refine gate_callee (f := 76) rfl ?_); refine goesL_ (some 5) rfl rfl Try.func76 kr_ rfl #[.int .i64 a0_0] rfl (bc_) ?_; (with_reducible refine (impl_isNo.calls a0_0 true _ A2.out).mono ?_); rintro e w' ⟨rfl, ⟨nd, rfl⟩⟩; refine ⟨_, rfl, ?_⟩) | (go_at_call 76; (with_reducible refine (impl_isNo.calls a0_1 true _ A4.out).mono ?_); rintro e w' ⟨rfl, ⟨nd, rfl⟩⟩) | (go_at_call 65; (with_reducible refine (impl_in.calls a0_2 1 1000000000 false _ A6.out).mono ?_); rintro e w' ⟨rfl, ⟨nd, rfl⟩⟩))
    go_ret
    exact ⟨er_, bg_ GE136.out⟩
  ·
   replace c5 := Bool.eq_false_iff.mpr c5
   subst c5
   have H1 := Eq.trans (if_neg nf_).symm H
   clear H
   have H := H1
   clear H1
   obtain rfl := Option.some.inj H
   go_enter Try.func42, Try.ntmps42
   go_wp2_with (first | ((with_reducible refine gate_dst (N := 1) rfl ?_); refine be_ 1 (cs := #[.int .i64 a0_0, .int .i64 a0_1, .int .i64 a0_2, .int .i64 a0_3, .int .i64 a0_4]) (t := 37) ?_; intro gb136 hg w17 hbox hb; have n0_ := Aside0.mk (below_step (bb_) hb); have n1_ := Aside0.mk (hbox); have n2_ := Aside0.mk ((gs_ hg : w.heap.size ≤ gb136)); have n3_ := Aside0.mk ((gs_ hg : w.heap.size ≤ gb136)); clear HB; have HB := n0_; have BK136 := n1_; have GW136 := n2_; have GE136 := n3_; clear n0_ n1_ n2_ n3_; clear hb hbox hg; obtain ⟨hcz18_0, hcz18_1, hcz18_2, hcz18_3, hcz18_4, hfz18_0, hfz18_1, hfz18_2, hfz18_3, hfz18_4⟩ := ce5_ BK136.out) | ((with_reducible refine gate_callee (f := 76) rfl ?_); refine goesL_ (some 5) rfl rfl Try.func76 kr_ rfl #[.int .i64 a0_0] rfl (bc_) ?_; (with_reducible refine (impl_isNo.calls a0_0 true _ A2.out).mono ?_); rintro e w' ⟨rfl, ⟨nd, rfl⟩⟩; refine ⟨_, rfl, ?_⟩) | (go_at_call 76; (with_reducible refine (impl_isNo.calls a0_1 false _ A4.out).mono ?_); rintro e w' ⟨rfl, ⟨nd, rfl⟩⟩))
   go_ret
   exact ⟨er_, bg_ GE136.out⟩
 ·
  replace c3 := Bool.eq_false_iff.mpr c3
  subst c3
  have H1 := Eq.trans (if_neg nf_).symm H
  clear H
  have H := H1
  clear H1
  obtain rfl := Option.some.inj H
  go_enter Try.func42, Try.ntmps42
  go_wp2_with (first | ((with_reducible refine gate_dst (N := 1) rfl ?_); refine be_ 1 (cs := #[.int .i64 a0_0, .int .i64 a0_1, .int .i64 a0_2, .int .i64 a0_3, .int .i64 a0_4]) (t := 37) ?_; intro gb136 hg w19 hbox hb; have n0_ := Aside0.mk (below_step (bb_) hb); have n1_ := Aside0.mk (hbox); have n2_ := Aside0.mk ((gs_ hg : w.heap.size ≤ gb136)); have n3_ := Aside0.mk ((gs_ hg : w.heap.size ≤ gb136)); clear HB; have HB := n0_; have BK136 := n1_; have GW136 := n2_; have GE136 := n3_; clear n0_ n1_ n2_ n3_; clear hb hbox hg; obtain ⟨hcz20_0, hcz20_1, hcz20_2, hcz20_3, hcz20_4, hfz20_0, hfz20_1, hfz20_2, hfz20_3, hfz20_4⟩ := ce5_ BK136.out) | ((with_reducible refine gate_callee (f := 76) rfl ?_); refine goesL_ (some 5) rfl rfl Try.func76 kr_ rfl #[.int .i64 a0_0] rfl (bc_) ?_; (with_reducible refine (impl_isNo.calls a0_0 false _ A2.out).mono ?_); rintro e w' ⟨rfl, ⟨nd, rfl⟩⟩; refine ⟨_, rfl, ?_⟩))
  go_ret
  exact ⟨er_, bg_ GE136.out⟩
def impl_byBoth.j0 : Nat → Int → Int → Int → Int → Bool → Option (Int)
 | 0, _, _, _, _, _ => none
 | k + 1, x0, x1, x2, x3, x9 => if x9 = true then (some (-1)) else (if x0 = x2 then (if x1 = x3 then (some 0) else (some 1)) else (some 1))
def impl_byBoth.f (k : Nat) (a0 : Int) (a1 : Int) (a2 : Int) (a3 : Int) : Option (Int) := if a0 < a2 then (impl_byBoth.j0 k a0 a1 a2 a3 true) else (if a0 = a2 then (impl_byBoth.j0 k a0 a1 a2 a3 (decide (a1 < a3))) else (impl_byBoth.j0 k a0 a1 a2 a3 false))
set_option maxHeartbeats 8000000 in
set_option maxRecDepth 100000 in
theorem impl_byBoth.calls (k : Nat) (a0 : Int) (a1 : Int) (a2 : Int) (a3 : Int) (r : Int) (w : World) (h : impl_byBoth.f k a0 a1 a2 a3 = some r) :
 Calls Try.prog 77 #[.int .i64 a0, .int .i64 a1, .int .i64 a2, .int .i64 a3] w fun e w' => e = .returned (.int .i64 r) ∧ Drawn0 w w' := by
 have H : (if a0 < a2 then (impl_byBoth.j0 k a0 a1 a2 a3 true) else (if a0 = a2 then (impl_byBoth.j0 k a0 a1 a2 a3 (decide (a1 < a3))) else (impl_byBoth.j0 k a0 a1 a2 a3 false))) = some r := h
 clear h
 have HC5 := Aside0.mk H
 clear H
 go_enter Try.func77, Try.ntmps77
 go_upto_region 1 with (fail)
 go_cut [9] (fun v9 wc => ∃ (kq : Nat) (x9_4 : Bool), v9 = .bool x9_4 ∧ Aside0 (impl_byBoth.j0 kq a0 a1 a2 a3 x9_4 = some r) ∧ Aside0 (kq ≤ k) ∧ Drawn0 w wc)
 case first =>
  have H := HC5.out
  clear HC5
  by_cases c6 : a0 < a2
  ·
   rw [if_pos c6] at H
   have c6b0 : decide (a0 < a2) = true := decide_eq_true c6
   clear c6
   (first | rw [c6b0] | (simp only [i64_w, i32_w]; rw [c6b0]) | skip)
   have H' := Aside0.mk H
   clear H
   go_wp2
   go_meet
   case rel => exact ⟨_, (true), (by first | rfl | (simp; done) | (simp [*]; done)), H', ⟨by first | omega | exact Nat.le_refl _⟩, by repeat (first | exact Drawn0.refl _ | apply Drawn0.step)⟩
  ·
   rw [if_neg c6] at H
   have c6b0 : decide (a0 < a2) = false := decide_eq_false c6
   clear c6
   (first | rw [c6b0] | (simp only [i64_w, i32_w]; rw [c6b0]) | skip)
   by_cases c7 : a0 = a2
   ·
    rw [if_pos c7] at H
    have c7b0 : (a0 == a2) = true := beq_iff_eq.mpr c7
    have c7b1 : (a0 != a2) = false := bne_eq_false_iff_eq.mpr c7
    clear c7
    have H' := Aside0.mk H
    clear H
    go_wp2
    go_meet
    case rel => exact ⟨_, (decide (a1 < a3)), (by first | rfl | (simp; done) | (simp [*]; done)), H', ⟨by first | omega | exact Nat.le_refl _⟩, by repeat (first | exact Drawn0.refl _ | apply Drawn0.step)⟩
   ·
    rw [if_neg c7] at H
    have c7b0 : (a0 == a2) = false := beq_eq_false_iff_ne.mpr c7
    have c7b1 : (a0 != a2) = true := bne_iff_ne.mpr c7
    have H' := Aside0.mk H
    clear H
    go_wp2
    go_meet
    case rel => exact ⟨_, (false), (by first | rfl | (simp; done) | (simp [*]; done)), H', ⟨by first | omega | exact Nat.le_refl _⟩, by repeat (first | exact Drawn0.refl _ | apply Drawn0.step)⟩
 case rest =>
  clear HC5
  try clear p2
  try clear c6b0
  try clear c7b0
  try clear c7b1
  obtain ⟨kq, x9_4, rfl, HA, HJ4, ⟨mc4, rfl⟩⟩ := hcut
  cases kq with
  | zero => exact absurd HA.out (by simp [impl_byBoth.j0])
  | succ kj4 =>
   have H := HA.out
   clear HA
   simp only [impl_byBoth.j0] at H
   by_cases c8 : x9_4 = true
   ·
    subst c8
    have H1 := Eq.trans (if_pos rfl).symm H
    clear H
    have H := H1
    clear H1
    obtain rfl := Option.some.inj H
    go_wp2
    go_ret
    exact ⟨by first | rfl | (simp; done) | (simp [*]; done), by repeat (first | exact Drawn0.refl _ | apply Drawn0.step)⟩
   ·
    replace c8 := Bool.eq_false_iff.mpr c8
    subst c8
    have H1 := Eq.trans (if_neg nf_).symm H
    clear H
    have H := H1
    clear H1
    by_cases c9 : a0 = a2
    ·
     rw [if_pos c9] at H
     have c9b0 : (a0 == a2) = true := beq_iff_eq.mpr c9
     have c9b1 : (a0 != a2) = false := bne_eq_false_iff_eq.mpr c9
     clear c9
     by_cases c10 : a1 = a3
     ·
      rw [if_pos c10] at H
      have c10b0 : (a1 == a3) = true := beq_iff_eq.mpr c10
      have c10b1 : (a1 != a3) = false := bne_eq_false_iff_eq.mpr c10
      clear c10
      obtain rfl := Option.some.inj H
      go_wp2
      go_ret
      exact ⟨by first | rfl | (simp; done) | (simp [*]; done), by repeat (first | exact Drawn0.refl _ | apply Drawn0.step)⟩
     ·
      rw [if_neg c10] at H
      have c10b0 : (a1 == a3) = false := beq_eq_false_iff_ne.mpr c10
      have c10b1 : (a1 != a3) = true := bne_iff_ne.mpr c10
      obtain rfl := Option.some.inj H
      go_wp2
      go_ret
      exact ⟨by first | rfl | (simp; done) | (simp [*]; done), by repeat (first | exact Drawn0.refl _ | apply Drawn0.step)⟩
    ·
     rw [if_neg c9] at H
     have c9b0 : (a0 == a2) = false := beq_eq_false_iff_ne.mpr c9
     have c9b1 : (a0 != a2) = true := bne_iff_ne.mpr c9
     obtain rfl := Option.some.inj H
     go_wp2
     go_ret
     exact ⟨by first | rfl | (simp; done) | (simp [*]; done), by repeat (first | exact Drawn0.refl _ | apply Drawn0.step)⟩
def impl_lotBefore.f (k : Nat) (a0_0 : Int) (a0_1 : Int) (a0_2 : Int) (a0_3 : Int) (a0_4 : Int) (a1_0 : Int) (a1_1 : Int) (a1_2 : Int) (a1_3 : Int) (a1_4 : Int) : Option (Int) := (impl_byBoth.f k a0_0 a0_1 a1_0 a1_1).bind fun t144 => (if t144 = 0 then (if a0_2 < a1_2 then (some (-1)) else (if a0_2 > a1_2 then (some 1) else (some 0))) else (some t144))
set_option maxHeartbeats 8000000 in
set_option maxRecDepth 100000 in
theorem impl_lotBefore.calls (k : Nat) (a0_0 : Int) (a0_1 : Int) (a0_2 : Int) (a0_3 : Int) (a0_4 : Int) (a1_0 : Int) (a1_1 : Int) (a1_2 : Int) (a1_3 : Int) (a1_4 : Int) (r : Int) (w : World) (h : impl_lotBefore.f k a0_0 a0_1 a0_2 a0_3 a0_4 a1_0 a1_1 a1_2 a1_3 a1_4 = some r) :
 Calls Try.prog 43 #[.agg #[.int .i64 a0_0, .int .i64 a0_1, .int .i64 a0_2, .int .i64 a0_3, .int .i64 a0_4], .agg #[.int .i64 a1_0, .int .i64 a1_1, .int .i64 a1_2, .int .i64 a1_3, .int .i64 a1_4]] w fun e w' => e = .returned (.int .i64 r) ∧ Below w.heap.size w w' := by
 have hu37 := Try.underlying37
 have HB := Aside0.mk (Below.refl w.heap.size w)
 have H : ((impl_byBoth.f k a0_0 a0_1 a1_0 a1_1).bind fun t144 => (if t144 = 0 then (if a0_2 < a1_2 then (some (-1)) else (if a0_2 > a1_2 then (some 1) else (some 0))) else (some t144))) = some r := h
 clear h
 replace H := Option.bind_eq_some_iff.mp H
 obtain ⟨t144, A30, H⟩ := H
 have A3 := Aside0.mk A30
 clear A30
 by_cases c4 : t144 = 0
 ·
  rw [if_pos c4] at H
  have c4b0 : (t144 == 0) = true := beq_iff_eq.mpr c4
  have c4b1 : (t144 != 0) = false := bne_eq_false_iff_eq.mpr c4
  clear c4
  by_cases c5 : a0_2 < a1_2
  ·
   rw [if_pos c5] at H
   have c5b0 : decide (a0_2 < a1_2) = true := decide_eq_true c5
   clear c5
   obtain rfl := Option.some.inj H
   go_enter Try.func43, Try.ntmps43
   go_wp2_with (first | ((with_reducible refine gate_dst (N := 2) rfl ?_); refine be_ 2 (cs := #[.int .i64 a0_0, .int .i64 a0_1, .int .i64 a0_2, .int .i64 a0_3, .int .i64 a0_4]) (t := 37) ?_; intro gb142 hg w6 hbox hb; have n0_ := Aside0.mk (below_step (bb_) hb); have n1_ := Aside0.mk (hbox); have n2_ := Aside0.mk ((gs_ hg : w.heap.size ≤ gb142)); have n3_ := Aside0.mk ((gs_ hg : w.heap.size ≤ gb142)); clear HB; have HB := n0_; have BK142 := n1_; have GW142 := n2_; have GE142 := n3_; clear n0_ n1_ n2_ n3_; clear hb hbox hg) | ((with_reducible refine gate_dst (N := 3) rfl ?_); refine be_ 3 (cs := #[.int .i64 a1_0, .int .i64 a1_1, .int .i64 a1_2, .int .i64 a1_3, .int .i64 a1_4]) (t := 37) ?_; intro gb143 hg w7 hbox hb; have n0_ := Aside0.mk (blk_below (g := gb142) (o := .cells #[.int .i64 a0_0, .int .i64 a0_1, .int .i64 a0_2, .int .i64 a0_3, .int .i64 a0_4] 37 (0, 0)) (pb_ BK142.out) hb); have n1_ := Aside0.mk (below_step (bg_ GE142.out) hb); have n2_ := Aside0.mk (hbox); have n3_ := Aside0.mk ((by rw [hg]; exact (below_size (bg_ GE142.out)) : w.heap.size ≤ gb143)); have n4_ := Aside0.mk ((by rw [hg]; exact (below_size (bg_ GE142.out)) : w.heap.size ≤ gb143)); have n5_ := Aside0.mk ((by rw [hg]; exact Nat.ne_of_lt (blk_lt (g := gb142) (o := .cells #[.int .i64 a0_0, .int .i64 a0_1, .int .i64 a0_2, .int .i64 a0_3, .int .i64 a0_4] 37 (0, 0)) (pb_ BK142.out)) : gb142 ≠ gb143)); have n6_ := Aside0.mk ((by rw [hg]; exact Nat.ne_of_gt (blk_lt (g := gb142) (o := .cells #[.int .i64 a0_0, .int .i64 a0_1, .int .i64 a0_2, .int .i64 a0_3, .int .i64 a0_4] 37 (0, 0)) (pb_ BK142.out)) : gb143 ≠ gb142)); clear BK142; clear HB; have BK142 := n0_; have HB := n1_; have BK143 := n2_; have GW143 := n3_; have GE143 := n4_; have NB142_143 := n5_; have NB143_142 := n6_; clear n0_ n1_ n2_ n3_ n4_ n5_ n6_; clear hb hbox hg; have hnb8 := NB142_143.out; have hnc8 := NB143_142.out; obtain ⟨hcz9_0, hcz9_1, hcz9_2, hcz9_3, hcz9_4, hfz9_0, hfz9_1, hfz9_2, hfz9_3, hfz9_4⟩ := ce5_ BK142.out; obtain ⟨hcz10_0, hcz10_1, hcz10_2, hcz10_3, hcz10_4, hfz10_0, hfz10_1, hfz10_2, hfz10_3, hfz10_4⟩ := ce5_ BK143.out) | ((with_reducible refine gate_callee (f := 77) rfl ?_); refine goesL_ (some 14) rfl rfl Try.func77 kr_ rfl #[.int .i64 a0_0, .int .i64 a0_1, .int .i64 a1_0, .int .i64 a1_1] rfl (bc_) ?_; (with_reducible refine (impl_byBoth.calls k a0_0 a0_1 a1_0 a1_1 t144 _ A3.out).mono ?_); rintro e w' ⟨rfl, ⟨nd, rfl⟩⟩; refine ⟨_, rfl, ?_⟩))
   go_ret
   exact ⟨er_, by repeat (first | (with_reducible first | exact HB.out | apply below_alloc | apply pw_below_drewN | apply below_drew1 | refine below_set ?_ GE142.out | refine below_set ?_ GE143.out) | exact HB.out)⟩
  ·
   rw [if_neg c5] at H
   have c5b0 : decide (a0_2 < a1_2) = false := decide_eq_false c5
   clear c5
   by_cases c11 : a0_2 > a1_2
   ·
    rw [if_pos c11] at H
    have c11b0 : decide (a1_2 < a0_2) = true := decide_eq_true c11
    clear c11
    obtain rfl := Option.some.inj H
    go_enter Try.func43, Try.ntmps43
    go_wp2_with (first | ((with_reducible refine gate_dst (N := 2) rfl ?_); refine be_ 2 (cs := #[.int .i64 a0_0, .int .i64 a0_1, .int .i64 a0_2, .int .i64 a0_3, .int .i64 a0_4]) (t := 37) ?_; intro gb142 hg w12 hbox hb; have n0_ := Aside0.mk (below_step (bb_) hb); have n1_ := Aside0.mk (hbox); have n2_ := Aside0.mk ((gs_ hg : w.heap.size ≤ gb142)); have n3_ := Aside0.mk ((gs_ hg : w.heap.size ≤ gb142)); clear HB; have HB := n0_; have BK142 := n1_; have GW142 := n2_; have GE142 := n3_; clear n0_ n1_ n2_ n3_; clear hb hbox hg) | ((with_reducible refine gate_dst (N := 3) rfl ?_); refine be_ 3 (cs := #[.int .i64 a1_0, .int .i64 a1_1, .int .i64 a1_2, .int .i64 a1_3, .int .i64 a1_4]) (t := 37) ?_; intro gb143 hg w13 hbox hb; have n0_ := Aside0.mk (blk_below (g := gb142) (o := .cells #[.int .i64 a0_0, .int .i64 a0_1, .int .i64 a0_2, .int .i64 a0_3, .int .i64 a0_4] 37 (0, 0)) (pb_ BK142.out) hb); have n1_ := Aside0.mk (below_step (bg_ GE142.out) hb); have n2_ := Aside0.mk (hbox); have n3_ := Aside0.mk ((by rw [hg]; exact (below_size (bg_ GE142.out)) : w.heap.size ≤ gb143)); have n4_ := Aside0.mk ((by rw [hg]; exact (below_size (bg_ GE142.out)) : w.heap.size ≤ gb143)); have n5_ := Aside0.mk ((by rw [hg]; exact Nat.ne_of_lt (blk_lt (g := gb142) (o := .cells #[.int .i64 a0_0, .int .i64 a0_1, .int .i64 a0_2, .int .i64 a0_3, .int .i64 a0_4] 37 (0, 0)) (pb_ BK142.out)) : gb142 ≠ gb143)); have n6_ := Aside0.mk ((by rw [hg]; exact Nat.ne_of_gt (blk_lt (g := gb142) (o := .cells #[.int .i64 a0_0, .int .i64 a0_1, .int .i64 a0_2, .int .i64 a0_3, .int .i64 a0_4] 37 (0, 0)) (pb_ BK142.out)) : gb143 ≠ gb142)); clear BK142; clear HB; have BK142 := n0_; have HB := n1_; have BK143 := n2_; have GW143 := n3_; have GE143 := n4_; have NB142_143 := n5_; have NB143_142 := n6_; clear n0_ n1_ n2_ n3_ n4_ n5_ n6_; clear hb hbox hg; have hnb14 := NB142_143.out; have hnc14 := NB143_142.out; obtain ⟨hcz15_0, hcz15_1, hcz15_2, hcz15_3, hcz15_4, hfz15_0, hfz15_1, hfz15_2, hfz15_3, hfz15_4⟩ := ce5_ BK142.out; obtain ⟨hcz16_0, hcz16_1, hcz16_2, hcz16_3, hcz16_4, hfz16_0, hfz16_1, hfz16_2, hfz16_3, hfz16_4⟩ := ce5_ BK143.out) | ((with_reducible refine gate_callee (f := 77) rfl ?_); refine goesL_ (some 14) rfl rfl Try.func77 kr_ rfl #[.int .i64 a0_0, .int .i64 a0_1, .int .i64 a1_0, .int .i64 a1_1] rfl (bc_) ?_; (with_reducible refine (impl_byBoth.calls k a0_0 a0_1 a1_0 a1_1 t144 _ A3.out).mono ?_); rintro e w' ⟨rfl, ⟨nd, rfl⟩⟩; refine ⟨_, rfl, ?_⟩))
    go_ret
    exact ⟨er_, by repeat (first | (with_reducible first | exact HB.out | apply below_alloc | apply pw_below_drewN | apply below_drew1 | refine below_set ?_ GE142.out | refine below_set ?_ GE143.out) | exact HB.out)⟩
   ·
    rw [if_neg c11] at H
    have c11b0 : decide (a1_2 < a0_2) = false := decide_eq_false c11
    clear c11
    obtain rfl := Option.some.inj H
    go_enter Try.func43, Try.ntmps43
    go_wp2_with (first | ((with_reducible refine gate_dst (N := 2) rfl ?_); refine be_ 2 (cs := #[.int .i64 a0_0, .int .i64 a0_1, .int .i64 a0_2, .int .i64 a0_3, .int .i64 a0_4]) (t := 37) ?_; intro gb142 hg w17 hbox hb; have n0_ := Aside0.mk (below_step (bb_) hb); have n1_ := Aside0.mk (hbox); have n2_ := Aside0.mk ((gs_ hg : w.heap.size ≤ gb142)); have n3_ := Aside0.mk ((gs_ hg : w.heap.size ≤ gb142)); clear HB; have HB := n0_; have BK142 := n1_; have GW142 := n2_; have GE142 := n3_; clear n0_ n1_ n2_ n3_; clear hb hbox hg) | ((with_reducible refine gate_dst (N := 3) rfl ?_); refine be_ 3 (cs := #[.int .i64 a1_0, .int .i64 a1_1, .int .i64 a1_2, .int .i64 a1_3, .int .i64 a1_4]) (t := 37) ?_; intro gb143 hg w18 hbox hb; have n0_ := Aside0.mk (blk_below (g := gb142) (o := .cells #[.int .i64 a0_0, .int .i64 a0_1, .int .i64 a0_2, .int .i64 a0_3, .int .i64 a0_4] 37 (0, 0)) (pb_ BK142.out) hb); have n1_ := Aside0.mk (below_step (bg_ GE142.out) hb); have n2_ := Aside0.mk (hbox); have n3_ := Aside0.mk ((by rw [hg]; exact (below_size (bg_ GE142.out)) : w.heap.size ≤ gb143)); have n4_ := Aside0.mk ((by rw [hg]; exact (below_size (bg_ GE142.out)) : w.heap.size ≤ gb143)); have n5_ := Aside0.mk ((by rw [hg]; exact Nat.ne_of_lt (blk_lt (g := gb142) (o := .cells #[.int .i64 a0_0, .int .i64 a0_1, .int .i64 a0_2, .int .i64 a0_3, .int .i64 a0_4] 37 (0, 0)) (pb_ BK142.out)) : gb142 ≠ gb143)); have n6_ := Aside0.mk ((by rw [hg]; exact Nat.ne_of_gt (blk_lt (g := gb142) (o := .cells #[.int .i64 a0_0, .int .i64 a0_1, .int .i64 a0_2, .int .i64 a0_3, .int .i64 a0_4] 37 (0, 0)) (pb_ BK142.out)) : gb143 ≠ gb142)); clear BK142; clear HB; have BK142 := n0_; have HB := n1_; have BK143 := n2_; have GW143 := n3_; have GE143 := n4_; have NB142_143 := n5_; have NB143_142 := n6_; clear n0_ n1_ n2_ n3_ n4_ n5_ n6_; clear hb hbox hg; have hnb19 := NB142_143.out; have hnc19 := NB143_142.out; obtain ⟨hcz20_0, hcz20_1, hcz20_2, hcz20_3, hcz20_4, hfz20_0, hfz20_1, hfz20_2, hfz20_3, hfz20_4⟩ := ce5_ BK142.out; obtain ⟨hcz21_0, hcz21_1, hcz21_2, hcz21_3, hcz21_4, hfz21_0, hfz21_1, hfz21_2, hfz21_3, hfz21_4⟩ := ce5_ BK143.out) | ((with_reducible refine gate_callee (f := 77) rfl ?_); refine goesL_ (some 14) rfl rfl Try.func77 kr_ rfl #[.int .i64 a0_0, .int .i64 a0_1, .int .i64 a1_0, .int .i64 a1_1] rfl (bc_) ?_; (with_reducible refine (impl_byBoth.calls k a0_0 a0_1 a1_0 a1_1 t144 _ A3.out).mono ?_); rintro e w' ⟨rfl, ⟨nd, rfl⟩⟩; refine ⟨_, rfl, ?_⟩))
    go_ret
    exact ⟨er_, by repeat (first | (with_reducible first | exact HB.out | apply below_alloc | apply pw_below_drewN | apply below_drew1 | refine below_set ?_ GE142.out | refine below_set ?_ GE143.out) | exact HB.out)⟩
 ·
  rw [if_neg c4] at H
  have c4b0 : (t144 == 0) = false := beq_eq_false_iff_ne.mpr c4
  have c4b1 : (t144 != 0) = true := bne_iff_ne.mpr c4
  obtain rfl := Option.some.inj H
  go_enter Try.func43, Try.ntmps43
  go_wp2_with (first | ((with_reducible refine gate_dst (N := 2) rfl ?_); refine be_ 2 (cs := #[.int .i64 a0_0, .int .i64 a0_1, .int .i64 a0_2, .int .i64 a0_3, .int .i64 a0_4]) (t := 37) ?_; intro gb142 hg w22 hbox hb; have n0_ := Aside0.mk (below_step (bb_) hb); have n1_ := Aside0.mk (hbox); have n2_ := Aside0.mk ((gs_ hg : w.heap.size ≤ gb142)); have n3_ := Aside0.mk ((gs_ hg : w.heap.size ≤ gb142)); clear HB; have HB := n0_; have BK142 := n1_; have GW142 := n2_; have GE142 := n3_; clear n0_ n1_ n2_ n3_; clear hb hbox hg) | ((with_reducible refine gate_dst (N := 3) rfl ?_); refine be_ 3 (cs := #[.int .i64 a1_0, .int .i64 a1_1, .int .i64 a1_2, .int .i64 a1_3, .int .i64 a1_4]) (t := 37) ?_; intro gb143 hg w23 hbox hb; have n0_ := Aside0.mk (blk_below (g := gb142) (o := .cells #[.int .i64 a0_0, .int .i64 a0_1, .int .i64 a0_2, .int .i64 a0_3, .int .i64 a0_4] 37 (0, 0)) (pb_ BK142.out) hb); have n1_ := Aside0.mk (below_step (bg_ GE142.out) hb); have n2_ := Aside0.mk (hbox); have n3_ := Aside0.mk ((by rw [hg]; exact (below_size (bg_ GE142.out)) : w.heap.size ≤ gb143)); have n4_ := Aside0.mk ((by rw [hg]; exact (below_size (bg_ GE142.out)) : w.heap.size ≤ gb143)); have n5_ := Aside0.mk ((by rw [hg]; exact Nat.ne_of_lt (blk_lt (g := gb142) (o := .cells #[.int .i64 a0_0, .int .i64 a0_1, .int .i64 a0_2, .int .i64 a0_3, .int .i64 a0_4] 37 (0, 0)) (pb_ BK142.out)) : gb142 ≠ gb143)); have n6_ := Aside0.mk ((by rw [hg]; exact Nat.ne_of_gt (blk_lt (g := gb142) (o := .cells #[.int .i64 a0_0, .int .i64 a0_1, .int .i64 a0_2, .int .i64 a0_3, .int .i64 a0_4] 37 (0, 0)) (pb_ BK142.out)) : gb143 ≠ gb142)); clear BK142; clear HB; have BK142 := n0_; have HB := n1_; have BK143 := n2_; have GW143 := n3_; have GE143 := n4_; have NB142_143 := n5_; have NB143_142 := n6_; clear n0_ n1_ n2_ n3_ n4_ n5_ n6_; clear hb hbox hg; have hnb24 := NB142_143.out; have hnc24 := NB143_142.out; obtain ⟨hcz25_0, hcz25_1, hcz25_2, hcz25_3, hcz25_4, hfz25_0, hfz25_1, hfz25_2, hfz25_3, hfz25_4⟩ := ce5_ BK142.out; obtain ⟨hcz26_0, hcz26_1, hcz26_2, hcz26_3, hcz26_4, hfz26_0, hfz26_1, hfz26_2, hfz26_3, hfz26_4⟩ := ce5_ BK143.out) | ((with_reducible refine gate_callee (f := 77) rfl ?_); refine goesL_ (some 14) rfl rfl Try.func77 kr_ rfl #[.int .i64 a0_0, .int .i64 a0_1, .int .i64 a1_0, .int .i64 a1_1] rfl (bc_) ?_; (with_reducible refine (impl_byBoth.calls k a0_0 a0_1 a1_0 a1_1 t144 _ A3.out).mono ?_); rintro e w' ⟨rfl, ⟨nd, rfl⟩⟩; refine ⟨_, rfl, ?_⟩))
  go_ret
  exact ⟨er_, by repeat (first | (with_reducible first | exact HB.out | apply below_alloc | apply pw_below_drewN | apply below_drew1 | refine below_set ?_ GE142.out | refine below_set ?_ GE143.out) | exact HB.out)⟩
def impl_sumLots.l0 : Nat → Int → Int → List (S37) → Int → Int → Option (Int × Int)
 | 0, _, _, _, _, _ => none
 | k + 1, x4, x5, x8, x9, x10 => if x10 < x9 then (if 0 ≤ x10 then (if x10 < (x8.length : Int) then (impl_sumLots.l0 k (wrap64 (x4 + ((rd_T37 x8 x10).f3))) (wrap64 (x5 + ((rd_T37 x8 x10).f4))) x8 x9 (wrap64 (x10 + 1))) else (none)) else (none)) else (some (x4, x5))
def impl_sumLots.f (k : Nat) (l0 : List (S37)) : Option (Int × Int) := impl_sumLots.l0 k 0 0 l0 (l0.length : Int) 0
set_option maxHeartbeats 8000000 in
set_option maxRecDepth 100000 in
theorem impl_sumLots.calls (k : Nat) (A0 : Option Addr) (c0 : Nat) (l0 : List (S37)) (r1 : Int) (r2 : Int) (w : World) (hr0 : Kd.C k37 w A0 l0.length l0) (hc0 : l0.length ≤ c0) (h : impl_sumLots.f k l0 = some (r1, r2)) :
 Calls Try.prog 46 #[.slice A0 l0.length c0] w fun e w' => e = .returned (.tuple #[.int .i64 r1, .int .i64 r2]) ∧ Below w.heap.size w w' := by
 have hu37 := Try.underlying37
 have HR0 := Aside0.mk hr0
 have HC0 := Aside0.mk hc0
 clear hr0 hc0
 have HB := Aside0.mk (Below.refl w.heap.size w)
 have H : (impl_sumLots.l0 k 0 0 l0 (l0.length : Int) 0) = some (r1, r2) := h
 clear h
 have H' := Aside0.mk H
 clear H
 go_enter Try.func46, Try.ntmps46
 go_wp2
 go_loopg [4, 5, 10] k (fun kq v4 v5 v10 w' => ∃ (x4_1 : Int) (x5_1 : Int) (x10_1 : Int), v4 = .int .i64 x4_1 ∧ v5 = .int .i64 x5_1 ∧ v10 = .int .i64 x10_1 ∧ Aside0 (impl_sumLots.l0 kq x4_1 x5_1 l0 (l0.length : Int) x10_1 = some (r1, r2)) ∧ Aside0 (kq ≤ k) ∧ Aside0 (Below w.heap.size w w'))
 case atStart => exact ⟨(0), (0), (0), (by first | rfl | (simp; done) | (simp [*]; done)), (by first | rfl | (simp; done) | (simp [*]; done)), (by first | rfl | (simp; done) | (simp [*]; done)), H', ⟨Nat.le_refl _⟩, ⟨bb_⟩⟩
 case round =>
  clear H'
  obtain ⟨x4_1, x5_1, x10_1, rfl, rfl, rfl, HA, HK1, HB⟩ := hrel
  cases gk with
  | zero => exact absurd HA.out (by simp [impl_sumLots.l0])
  | succ k1 =>
   have H := HA.out
   clear HA
   simp only [impl_sumLots.l0] at H
   by_cases c2 : x10_1 < (l0.length : Int)
   ·
    rw [if_pos c2] at H
    have c2b0 : decide (x10_1 < (l0.length : Int)) = true := decide_eq_true c2
    clear c2
    by_cases c3 : 0 ≤ x10_1
    ·
     rw [if_pos c3] at H
     have c3b0 : decide (0 ≤ x10_1) = true := decide_eq_true c3
     clear c3
     by_cases c4 : x10_1 < (l0.length : Int)
     ·
      rw [if_pos c4] at H
      have c4b0 : decide (x10_1 < (l0.length : Int)) = true := decide_eq_true c4
      clear c4
      have H' := Aside0.mk H
      clear H
      have p145 : 0 ≤ (x10_1 : Int) := od_
      have q145 : x10_1 < (l0.length : Int) := od_
      obtain ⟨ad145, e145, hx145_0, hx145_1, hx145_2, hx145_3, hx145_4⟩ := at_T37 HR0.out x10_1 p145 q145
      cases e145
      replace hx145_0 := cl_ HB.out hx145_0
      replace hx145_1 := cl_ HB.out hx145_1
      replace hx145_2 := cl_ HB.out hx145_2
      replace hx145_3 := cl_ HB.out hx145_3
      replace hx145_4 := cl_ HB.out hx145_4
      replace p145 := eq_true p145
      replace q145 := eq_true q145
      go_wp2_with (first | ((with_reducible refine gate_dst (N := 7) rfl ?_); refine be_ 7 (cs := #[.int .i64 0, .int .i64 0, .int .i64 0, .int .i64 0, .int .i64 0]) (t := 37) ?_; intro gb146 hg w5 hbox hb; have n0_ := Aside0.mk (below_step (bb_) hb); have n1_ := Aside0.mk (hbox); have n2_ := Aside0.mk ((gs_ hg : w.heap.size ≤ gb146)); have n3_ := Aside0.mk ((gs_ hg : w.heap.size ≤ gb146)); clear HB; have HB := n0_; have BK146 := n1_; have GW146 := n2_; have GE146 := n3_; clear n0_ n1_ n2_ n3_; clear hb hbox hg; obtain ⟨hcz6_0, hcz6_1, hcz6_2, hcz6_3, hcz6_4, hfz6_0, hfz6_1, hfz6_2, hfz6_3, hfz6_4⟩ := ce5_ BK146.out))
      go_roundg k1
      case measure => have := HK1.out; omega
      case rel => exact ⟨(wrap64 (x4_1 + ((rd_T37 l0 x10_1).f3))), (wrap64 (x5_1 + ((rd_T37 l0 x10_1).f4))), (wrap64 (x10_1 + 1)), (by first | rfl | (simp; done) | (simp [*]; done)), (by first | rfl | (simp; done) | (simp [*]; done)), (by first | rfl | (simp; done) | (simp [*]; done)), H', ⟨by have := HK1.out; omega⟩, ⟨bg_ GE146.out⟩⟩
     ·
      rw [if_neg c4] at H
      exact absurd H (by simp)
    ·
     rw [if_neg c3] at H
     exact absurd H (by simp)
   ·
    rw [if_neg c2] at H
    have c2b0 : decide (x10_1 < (l0.length : Int)) = false := decide_eq_false c2
    clear c2
    simp only [Option.some.injEq, Prod.mk.injEq] at H
    obtain ⟨rfl, rfl⟩ := H
    go_wp2
    go_ret2
    exact ⟨er_, bb_⟩
def impl_Lot_55.f (l0 : List (S37)) : Option ((List (S37))) := (some (([] : List (S37)) : List (S37))).bind fun y147 => (if y147.length + l0.length < 3518437208883 then (some (y147 ++ l0)) else (none))
set_option maxHeartbeats 8000000 in
set_option maxRecDepth 100000 in
theorem impl_Lot_55.calls (A0 : Option Addr) (c0 : Nat) (l0 : List (S37)) (r : List (S37)) (w : World) (hr0 : Kd.C k37 w A0 l0.length l0) (hc0 : l0.length ≤ c0) (h : impl_Lot_55.f l0 = some r) :
 Calls Try.prog 55 #[.slice A0 l0.length c0] w fun e w' => ∃ v0_ : Value, e = .returned (v0_) ∧ Kd.R k37 37 w' w.heap.size (fun _ => True) v0_ r ∧ Below w.heap.size w w' := by
 have HR0 := Aside0.mk hr0
 have HC0 := Aside0.mk hc0
 clear hr0 hc0
 have HB := Aside0.mk (Below.refl w.heap.size w)
 have H : ((some (([] : List (S37)) : List (S37))).bind fun y147 => (if y147.length + l0.length < 3518437208883 then (some (y147 ++ l0)) else (none))) = some r := h
 clear h
 obtain ⟨y147, hy147⟩ : ∃ y_ : List (S37), y_ = (([] : List (S37))) := ⟨_, rfl⟩
 replace H : (if y147.length + l0.length < 3518437208883 then (some (y147 ++ l0)) else (none)) = some r := rh_ hy147 H
 have Ny147 := Aside0.mk hy147
 clear hy147
 by_cases c2 : y147.length + l0.length < 3518437208883
 ·
  rw [if_pos c2] at H
  have LMc2 := Aside0.mk c2
  clear c2
  obtain ⟨y150, hy150⟩ : ∃ y_ : List (S37), y_ = (y147 ++ l0) := ⟨_, rfl⟩
  replace H : (some y150) = some r := rh_ hy150 H
  have Ny150 := Aside0.mk hy150
  clear hy150
  obtain rfl := Option.some.inj H
  have q_ : ∀ (W : World) (a : Option Addr) (n c n' c' : Nat), (binOp .eql 25 (.slice a n c) (.slice none n' c')).run Try.prog W = .ok (.bool a.isNone) W := fun W a n c n' c' => Lib.run_eql_slice_nil W _ _ a n c n' c' Try.underlying25
  cases A0 with
  | none =>
   have e0_ : l0 = [] := by
    have h_ : ReadsRow _ _ _ _ _ _ := HR0.out
    unfold ReadsRow at h_
    obtain ⟨h1_, _, h2_⟩ := h_
    apply List.eq_nil_of_length_eq_zero
    apply Classical.byContradiction
    intro hn_
    obtain ⟨ad_, e_, _⟩ := h2_ (by omega)
    cases e_
   have Ny0_ : y150 = [] := by rw [Ny150.out, Ny147.out, e0_]; rfl
   subst Ny0_
   go_enter Try.func55, Try.ntmps55
   go_wp2
   go_ret
   exact ⟨_, by first | rfl | (simp; done) | (simp [*]; done), Kd.R_nil _ _ _ _ _, HB.out⟩
  | some ad0 =>
   go_enter Try.func55, Try.ntmps55
   go_wp2_with (first | ((with_reducible refine gate_dst (N := 5) rfl ?_); refine Kd.R_lit k37 _ 37 ?hg (N := 5) ?hd (xs := ([] : List (S37))) (inner := []) (ok := fun _ => True) (okp := fun _ => True) ?hr ?hp (fun _ hk => hk) trivial (Below.refl _ _) (Nat.le_refl _) (by simp) ?_; (case hd => rfl); (case hg => rfl); (case hr => first | (go_simp; done) | (go_simp; rfl)); (case hp => exact (Reps.none _ _)); intro v148 w3 ho4 hb hg_ hnew_; clear hg_ hnew_; (first | rw [← Ny147.out] at ho4 | (simp only [Int.reduceToNat] at ho4; rw [← Ny147.out] at ho4)); have n0_ := Aside0.mk (Kd.R_lower ho4 (below_size (bb_))); have n1_ := Aside0.mk (below_step (bb_) hb); clear HB; have HO149 := n0_; have HB := n1_; clear n0_ n1_; clear hb ho4) | ((with_reducible refine gate_builtin (b := .append) (xs := #[.tmp 5, .tmp 6]) rfl ?_); at_builtin; refine Kd.R_append_rows k37 (w0 := w) w.heap.size rfl (.tmp 5) (.tmp 6) 25 37 (.agg #[(.int .i64 0), (.int .i64 0), (.int .i64 0), (.int .i64 0), (.int .i64 0)]) 40 rfl Try.underlying25 info37 rfl (by decide) (by omega) v148 y147 l0 _ _ _ (fun _ => True) (fun _ => False) rfl rfl ?aO ?aR (fun _ _ h => h) (fun _ h => h.elim) ?aF ?aB ?aS ?aL ?_; (case aR => repeat (first | exact (Kd.C_below HR0.out HB.out) | (with_reducible refine Kd.C_alloc ?_ _) | (with_reducible refine Kd.C_drewN ?_ _) | (with_reducible refine Kd.C_drew ?_))); (case aB => exact (bb_)); (case aF => exact (fun _ _ => trivial)); (case aO => exact (pe_ HO149.out)); (case aS => exact (below_size (bb_))); (case aL => have := LMc2.out; omega); intro v151 w5 ho hb hg hat; rw [← Ny150.out] at ho; have n0_ := Aside0.mk (hb); have n1_ := Aside0.mk (ho); clear HB; clear HO149; have HB := n0_; have HO152 := n1_; clear n0_ n1_; clear ho hb hg hat))
   go_ret
   exact ⟨_, er_, by (with_reducible repeat (first | apply Kd.R_alloc | apply Kd.R_drewN | apply Kd.R_drew)); exact HO152.out, bb_⟩
 ·
  rw [if_neg c2] at H
  exact absurd H (by simp)
def impl_isLot.f (a0_0 : Int) (a0_1 : Int) (a0_2 : Int) (a0_3 : Int) (a0_4 : Int) (a1 : Int) (a2 : Int) : Option (Bool) := if a0_0 = a1 then (some (a0_1 == a2)) else (some false)
set_option maxHeartbeats 8000000 in
set_option maxRecDepth 100000 in
theorem impl_isLot.calls (a0_0 : Int) (a0_1 : Int) (a0_2 : Int) (a0_3 : Int) (a0_4 : Int) (a1 : Int) (a2 : Int) (r : Bool) (w : World) (h : impl_isLot.f a0_0 a0_1 a0_2 a0_3 a0_4 a1 a2 = some r) :
 Calls Try.prog 81 #[.agg #[.int .i64 a0_0, .int .i64 a0_1, .int .i64 a0_2, .int .i64 a0_3, .int .i64 a0_4], .int .i64 a1, .int .i64 a2] w fun e w' => e = .returned (.bool r) ∧ Below w.heap.size w w' := by
 have hu37 := Try.underlying37
 have HB := Aside0.mk (Below.refl w.heap.size w)
 have H : (if a0_0 = a1 then (some (a0_1 == a2)) else (some false)) = some r := h
 clear h
 by_cases c4 : a0_0 = a1
 ·
  rw [if_pos c4] at H
  have c4b0 : (a0_0 == a1) = true := beq_iff_eq.mpr c4
  have c4b1 : (a0_0 != a1) = false := bne_eq_false_iff_eq.mpr c4
  clear c4
  obtain rfl := Option.some.inj H
  go_enter Try.func81, Try.ntmps81
  go_wp2_with (first | ((with_reducible refine gate_dst (N := 3) rfl ?_); refine be_ 3 (cs := #[.int .i64 a0_0, .int .i64 a0_1, .int .i64 a0_2, .int .i64 a0_3, .int .i64 a0_4]) (t := 37) ?_; intro gb153 hg w5 hbox hb; have n0_ := Aside0.mk (below_step (bb_) hb); have n1_ := Aside0.mk (hbox); have n2_ := Aside0.mk ((gs_ hg : w.heap.size ≤ gb153)); have n3_ := Aside0.mk ((gs_ hg : w.heap.size ≤ gb153)); clear HB; have HB := n0_; have BK153 := n1_; have GW153 := n2_; have GE153 := n3_; clear n0_ n1_ n2_ n3_; clear hb hbox hg; obtain ⟨hcz6_0, hcz6_1, hcz6_2, hcz6_3, hcz6_4, hfz6_0, hfz6_1, hfz6_2, hfz6_3, hfz6_4⟩ := ce5_ BK153.out))
  go_ret
  exact ⟨er_, bg_ GE153.out⟩
 ·
  rw [if_neg c4] at H
  have c4b0 : (a0_0 == a1) = false := beq_eq_false_iff_ne.mpr c4
  have c4b1 : (a0_0 != a1) = true := bne_iff_ne.mpr c4
  obtain rfl := Option.some.inj H
  go_enter Try.func81, Try.ntmps81
  go_wp2_with (first | ((with_reducible refine gate_dst (N := 3) rfl ?_); refine be_ 3 (cs := #[.int .i64 a0_0, .int .i64 a0_1, .int .i64 a0_2, .int .i64 a0_3, .int .i64 a0_4]) (t := 37) ?_; intro gb153 hg w7 hbox hb; have n0_ := Aside0.mk (below_step (bb_) hb); have n1_ := Aside0.mk (hbox); have n2_ := Aside0.mk ((gs_ hg : w.heap.size ≤ gb153)); have n3_ := Aside0.mk ((gs_ hg : w.heap.size ≤ gb153)); clear HB; have HB := n0_; have BK153 := n1_; have GW153 := n2_; have GE153 := n3_; clear n0_ n1_ n2_ n3_; clear hb hbox hg; obtain ⟨hcz8_0, hcz8_1, hcz8_2, hcz8_3, hcz8_4, hfz8_0, hfz8_1, hfz8_2, hfz8_3, hfz8_4⟩ := ce5_ BK153.out))
  go_ret
  exact ⟨er_, bg_ GE153.out⟩
end Go.Proofs.Ytomanpmffjkkgaa.P
namespace Go.Proofs.Ytomanpmffjkkgaa.P
open Go.RowKit Go.Proofs.YtomanpmffjkkgaaW.PrintWords Go.Proofs.YtomanpmffjkkgaaW.PrintLast Go.Proofs.YtomanpmffjkkgaaW.PrintMore
attribute [local go_sem] max2_int min2_int max_two min_two max_three min_three max_four min_four   -- for this text's walks alone
set_option linter.unusedVariables false
set_option linter.unusedSimpArgs false
set_option maxHeartbeats 8000000 in
set_option maxRecDepth 100000 in
theorem IndexFunc_st37.calls (A0 : Option Addr) (c0 : Nat) (l0 : List (S37)) (fc : FuncId) (caps : Array Value) (p : S37 → Bool) (w : World) (hr0 : Kd.C k37 w A0 l0.length l0) (hc0 : l0.length ≤ c0) (hp : X0.FnB Try.prog fc caps w (fun x => .agg #[.int .i64 x.f0, .int .i64 x.f1, .int .i64 x.f2, .int .i64 x.f3, .int .i64 x.f4]) p) :
 Calls Try.prog 78 #[.slice A0 l0.length c0, .func (.func fc) #[] caps] w fun e w' => e = .returned (.int .i64 (X0.idx p l0)) ∧ Below w.heap.size w w' := by
 obtain ⟨fn, hf, hn, hb, hcall⟩ := hp
 have HR0 := Aside0.mk hr0
 have HC0 := Aside0.mk hc0
 have HF := Aside0.mk hf
 have HN := Aside0.mk hn
 have HBo := Aside0.mk hb
 have HP := Aside0.mk hcall
 have HM := Aside0.mk (Kd.C_max hr0)
 clear hr0 hc0 hf hn hb hcall
 have HB := Aside0.mk (Below.refl w.heap.size w)
 have hu37 := Try.underlying37
 go_enter Try.func78, Try.ntmps78
 go_wp2
 go_loopg [8] l0.length (fun kq v8 w' => ∃ (x : Int), v8 = .int .i64 x ∧ Aside0 (0 ≤ x ∧ x ≤ l0.length ∧ kq = (l0.length - x).toNat ∧ ∀ j : Nat, j < x.toNat → p (l0.getD j z37) = false) ∧ Aside0 (Below w.heap.size w w'))
 case atStart => exact ⟨0, rfl, ⟨Int.le_refl _, by omega, by omega, fun j hj => by omega⟩, ⟨HB.out⟩⟩
 case round =>
  obtain ⟨x, rfl, HA, HB⟩ := hrel
  by_cases c2 : x < (l0.length : Int)
  ·
   have p1 : 0 ≤ x := HA.out.1
   obtain ⟨ad, e, hx_0, hx_1, hx_2, hx_3, hx_4⟩ := at_T37 HR0.out x p1 c2
   cases e
   replace hx_0 := cl_ HB.out hx_0
   replace hx_1 := cl_ HB.out hx_1
   replace hx_2 := cl_ HB.out hx_2
   replace hx_3 := cl_ HB.out hx_3
   replace hx_4 := cl_ HB.out hx_4
   have c2b0 : decide (x < (l0.length : Int)) = true := decide_eq_true c2
   have C2 := Aside0.mk c2
   replace p1 := eq_true p1
   have q1 := eq_true c2
   clear c2
   cases hpx : p (rd_T37 l0 x) with
   | true =>
    have HX := Aside0.mk hpx
    clear hpx
    go_wp2_with (first | ((with_reducible refine gate_dst (N := 16) rfl ?_); refine X0.goesV_ (some 16) rfl rfl caps HF.out HN.out HBo.out #[.agg #[.int .i64 (rd_T37 l0 x).f0, .int .i64 (rd_T37 l0 x).f1, .int .i64 (rd_T37 l0 x).f2, .int .i64 (rd_T37 l0 x).f3, .int .i64 (rd_T37 l0 x).f4]] rfl rfl (by (try simp only [List.map_toArray, List.map_cons, List.map_nil]); first | done | rfl) ?_; refine (HP.out (rd_T37 l0 x) _ HB.out).mono ?_; rintro e w6 ⟨rfl, hb6⟩; refine ⟨_, rfl, ?_⟩; rw [HX.out]; have n0_ := Aside0.mk (below_step HB.out hb6); clear HB; have HB := n0_; clear n0_ hb6))
    go_ret
    exact ⟨by
     have := HA.out
     have h2 := C2.out
     have e1 : rd_T37 l0 x = l0.getD x.toNat z37 := rfl
     have h3 := HX.out
     rw [e1] at h3
     rw [X0.idx_found p z37 l0 x.toNat (by omega) this.2.2.2 h3, Int.toNat_of_nonneg this.1]
     rfl, HB.out⟩
   | false =>
    have HX := Aside0.mk hpx
    clear hpx
    go_wp2_with (first | ((with_reducible refine gate_dst (N := 16) rfl ?_); refine X0.goesV_ (some 16) rfl rfl caps HF.out HN.out HBo.out #[.agg #[.int .i64 (rd_T37 l0 x).f0, .int .i64 (rd_T37 l0 x).f1, .int .i64 (rd_T37 l0 x).f2, .int .i64 (rd_T37 l0 x).f3, .int .i64 (rd_T37 l0 x).f4]] rfl rfl (by (try simp only [List.map_toArray, List.map_cons, List.map_nil]); first | done | rfl) ?_; refine (HP.out (rd_T37 l0 x) _ HB.out).mono ?_; rintro e w6 ⟨rfl, hb6⟩; refine ⟨_, rfl, ?_⟩; rw [HX.out]; have n0_ := Aside0.mk (below_step HB.out hb6); clear HB; have HB := n0_; clear n0_ hb6))
    go_roundg (l0.length - (x + 1)).toNat
    case measure => have := HA.out; have := C2.out; omega
    case rel =>
     have h1 := HA.out
     have h2 := C2.out
     have h4 := HM.out
     refine ⟨wrap64 (x + 1), (by first | rfl | (simp; done) | (simp [*]; done)), ⟨?_⟩, ⟨HB.out⟩⟩
     have hw : wrap64 (x + 1) = x + 1 := by unfold wrap64; omega
     rw [hw]
     refine ⟨by omega, by omega, rfl, fun j hj => ?_⟩
     by_cases hj2 : j < x.toNat
     ·
      exact h1.2.2.2 j hj2
     ·
      obtain rfl : j = x.toNat := by omega
      exact HX.out
  ·
   have c2b0 : decide (x < (l0.length : Int)) = false := decide_eq_false c2
   have C2 := Aside0.mk c2
   clear c2
   go_wp2
   go_ret
   exact ⟨by
    have := HA.out
    have h2 := C2.out
    rw [X0.idx_none p z37 l0 fun j hj => this.2.2.2 j (by omega)]
    rfl, HB.out⟩
set_option maxHeartbeats 8000000 in
set_option maxRecDepth 100000 in
theorem ContainsFunc_st37.calls (A0 : Option Addr) (c0 : Nat) (l0 : List (S37)) (fc : FuncId) (caps : Array Value) (p : S37 → Bool) (w : World) (hr0 : Kd.C k37 w A0 l0.length l0) (hc0 : l0.length ≤ c0) (hp : X0.FnB Try.prog fc caps w (fun x => .agg #[.int .i64 x.f0, .int .i64 x.f1, .int .i64 x.f2, .int .i64 x.f3, .int .i64 x.f4]) p) :
 Calls Try.prog 44 #[.slice A0 l0.length c0, .func (.func fc) #[] caps] w fun e w' => e = .returned (.bool (l0.any p)) ∧ Below w.heap.size w w' := by
 have HI := Aside0.mk (IndexFunc_st37.calls A0 c0 l0 fc caps p w hr0 hc0 hp)
 clear hr0 hc0 hp
 go_enter Try.func44, Try.ntmps44
 go_wp2_with (first | (go_at_call 78; refine HI.out.mono ?_; rintro e w6 ⟨rfl, hb6⟩; have HB := Aside0.mk hb6; clear hb6))
 go_ret
 exact ⟨by
  rw [← X0.idx_any p l0]
  rfl, HB.out⟩
theorem delf37_flat : IN.Flat k37 (fun x : S37 => ([.int .i64 x.f0, .int .i64 x.f1, .int .i64 x.f2, .int .i64 x.f3, .int .i64 x.f4] : List Value)) := ⟨fun h => k37_openM h, fun w base ok x => k37_mkM w base ok x, fun h => k37_open h⟩
theorem delf37_zero (w : World) : (zeroValue 37).run Try.prog w = .ok (.agg #[(.int .i64 0), (.int .i64 0), (.int .i64 0), (.int .i64 0), (.int .i64 0)]) w := by
 obtain ⟨i0, hi, hz⟩ := Option.map_eq_some_iff.1 info37
 simp only [Prod.mk.injEq] at hz
 simp [zeroValue, typeInfo, hi, hz.1]
set_option maxHeartbeats 8000000 in
set_option maxRecDepth 100000 in
theorem DeleteFunc_st37.some_ (g c i0 : Nat) (l0 : List (S37)) (fc : FuncId) (caps : Array Value) (p : S37 → Bool) (w : World) (hraw : DG.Raw (fun x : S37 => ([.int .i64 x.f0, .int .i64 x.f1, .int .i64 x.f2, .int .i64 x.f3, .int .i64 x.f4] : List Value)) 5 37 c g w l0) (hlc : l0.length ≤ c) (hcm : c ≤ maxLen) (hl : l0.length < 1048577)
 (hp : DG.FnG Try.prog fc caps w g (fun x : S37 => .agg #[.int .i64 x.f0, .int .i64 x.f1, .int .i64 x.f2, .int .i64 x.f3, .int .i64 x.f4]) p) (hi0 : i0 < l0.length) (hx : X0.idx p l0 = (i0 : Int)) (ht : p (l0.getD i0 z37) = true) (ha : ∀ x ∈ l0.take i0, p x = false) :
 Calls Try.prog 79 #[.slice (some ⟨g, 0, none⟩) l0.length c, .func (.func fc) #[] caps] w fun e w' => e = .returned (.slice (some ⟨g, 0, none⟩) (l0.filter fun x => !p x).length c) ∧ w.grownBy w' (some g) ∧ DG.Raw (fun x : S37 => ([.int .i64 x.f0, .int .i64 x.f1, .int .i64 x.f2, .int .i64 x.f3, .int .i64 x.f4] : List Value)) 5 37 c g w' (l0.filter fun x => !p x) := by
 have hu37 := Try.underlying37
 have HI := Aside0.mk (IndexFunc_st37.calls (some ⟨g, 0, none⟩) c l0 fc caps p w (DG.Raw.reads delf37_flat rfl hraw hlc hcm) hlc hp.below)
 obtain ⟨fn, hf, hn, hb, hcall⟩ := hp
 have HF := Aside0.mk hf
 have HN := Aside0.mk hn
 have HBo := Aside0.mk hb
 have HP := Aside0.mk hcall
 have HRW := Aside0.mk hraw
 have HST := Aside0.mk (DG.KI.start (p := p) z37 hi0 ht ha)
 have HX := Aside0.mk hx
 have hm : c ≤ 9223372036854775807 := by unfold maxLen at hcm; exact hcm
 have hne1 : ((i0 : Int) == -1) = false := beq_eq_false_iff_ne.2 (by omega)
 clear hf hn hb hcall hraw ht ha hx
 go_enter Try.func79, Try.ntmps79
 go_wp2_with (go_at_call 78; refine HI.out.mono ?_; rintro e w6 ⟨rfl, hb6⟩; rw [HX.out]; have HB := Aside0.mk hb6; clear hb6)
 go_loopg [5, 6] l0.length (fun kq v5 v6 wr => ∃ (i j : Nat) (xs : List (S37)), v5 = .int .i64 (i : Int) ∧ v6 = .int .i64 (j : Int) ∧ Aside0 (DG.KI p l0 xs i j ∧ l0.length - j ≤ kq) ∧ Aside0 (w.grownBy wr (some g)) ∧ Aside0 (DG.Raw (fun x : S37 => ([.int .i64 x.f0, .int .i64 x.f1, .int .i64 x.f2, .int .i64 x.f3, .int .i64 x.f4] : List Value)) 5 37 c g wr xs))
 case atStart => exact ⟨i0, i0 + 1, l0, rfl, by go_num, ⟨HST.out, by omega⟩, ⟨grown_of_below HB.out _⟩, ⟨HRW.out.later HB.out⟩⟩
 case round =>
  obtain ⟨i, j, xs, rfl, rfl, HK, HG, HR⟩ := hrel
  by_cases hlt : j < l0.length
  ·
   have hxj := (HK.out.1).at z37 hlt
   have hjx : j < xs.length := by rw [HK.out.1.len]; exact hlt
   obtain ⟨x, hx0⟩ : ∃ x, x = l0.getD j z37 := ⟨_, rfl⟩
   have HX0 := Aside0.mk hx0
   have hx_0 := HR.out.cell delf37_flat rfl z37 j 0 hjx (.int .i64 x.f0) (by rw [hxj, ← hx0]; rfl)
   have hx_1 := HR.out.cell delf37_flat rfl z37 j 1 hjx (.int .i64 x.f1) (by rw [hxj, ← hx0]; rfl)
   have hx_2 := HR.out.cell delf37_flat rfl z37 j 2 hjx (.int .i64 x.f2) (by rw [hxj, ← hx0]; rfl)
   have hx_3 := HR.out.cell delf37_flat rfl z37 j 3 hjx (.int .i64 x.f3) (by rw [hxj, ← hx0]; rfl)
   have hx_4 := HR.out.cell delf37_flat rfl z37 j 4 hjx (.int .i64 x.f4) (by rw [hxj, ← hx0]; rfl)
   rw [Nat.add_zero] at hx_0
   have hij : i < j := HK.out.1.lt
   have hjc : j < c := by omega
   clear hxj hjx hx0
   cases hpx : p x with
   | true =>
    have HPX := Aside0.mk hpx
    clear hpx
    go_wp2_with (first | ((with_reducible refine gate_dst (N := 28) rfl ?_); refine X0.goesV_ (some 28) rfl rfl caps HF.out HN.out HBo.out #[.agg #[.int .i64 x.f0, .int .i64 x.f1, .int .i64 x.f2, .int .i64 x.f3, .int .i64 x.f4]] rfl rfl (by (try simp only [List.map_toArray, List.map_cons, List.map_nil]); first | done | rfl) ?_; refine (HP.out x _ (DG.grown_below HG.out (below_alloc (Below.refl _ _) _))).mono ?_; rintro e w9 ⟨rfl, hb9⟩; refine ⟨_, rfl, ?_⟩; rw [HPX.out]; have HB9 := Aside0.mk hb9; skip; clear hb9))
    go_roundg (l0.length - (j + 1))
    case measure => have := HK.out.2; omega
    case rel => exact ⟨i, j + 1, xs, rfl, by go_num, ⟨HK.out.1.skip z37 hlt (by rw [← HX0.out]; exact HPX.out), Nat.le_refl _⟩, ⟨DG.grown_below (DG.grown_below HG.out (below_alloc (Below.refl _ _) _)) HB9.out⟩, ⟨(HR.out.later (below_alloc (Below.refl _ _) _)).later HB9.out⟩⟩
   | false =>
    have HPX := Aside0.mk hpx
    clear hpx
    have hix : i < xs.length := by have := HK.out.1.len; omega
    have hic : i < c := by omega
    have hiz : (i : Int) < (l0.length : Int) := by omega
    go_wp2_with (first | ((with_reducible refine gate_dst (N := 28) rfl ?_); refine X0.goesV_ (some 28) rfl rfl caps HF.out HN.out HBo.out #[.agg #[.int .i64 x.f0, .int .i64 x.f1, .int .i64 x.f2, .int .i64 x.f3, .int .i64 x.f4]] rfl rfl (by (try simp only [List.map_toArray, List.map_cons, List.map_nil]); first | done | rfl) ?_; refine (HP.out x _ (DG.grown_below HG.out (below_alloc (Below.refl _ _) _))).mono ?_; rintro e w9 ⟨rfl, hb9⟩; refine ⟨_, rfl, ?_⟩; rw [HPX.out]; have HB9 := Aside0.mk hb9; have hy_0 := (hb9.cell (p := ⟨wr.heap.size, 0, none⟩) (by simp)).trans ((DG.cell_new wr _ _ 0).trans (rfl : _ = some (Value.int .i64 x.f0))); have hy_1 := (hb9.cell (p := ⟨wr.heap.size, 1, none⟩) (by simp)).trans ((DG.cell_new wr _ _ 1).trans (rfl : _ = some (Value.int .i64 x.f1))); have hy_2 := (hb9.cell (p := ⟨wr.heap.size, 2, none⟩) (by simp)).trans ((DG.cell_new wr _ _ 2).trans (rfl : _ = some (Value.int .i64 x.f2))); have hy_3 := (hb9.cell (p := ⟨wr.heap.size, 3, none⟩) (by simp)).trans ((DG.cell_new wr _ _ 3).trans (rfl : _ = some (Value.int .i64 x.f3))); have hy_4 := (hb9.cell (p := ⟨wr.heap.size, 4, none⟩) (by simp)).trans ((DG.cell_new wr _ _ 4).trans (rfl : _ = some (Value.int .i64 x.f4))); have RW9 := (HR.out.later (below_alloc (Below.refl _ _) (Obj.cells #[.int .i64 x.f0, .int .i64 x.f1, .int .i64 x.f2, .int .i64 x.f3, .int .i64 x.f4] 37 (0, 0)))).later hb9; have hd_0 := RW9.cell delf37_flat rfl z37 i 0 hix (.int .i64 (xs.getD i z37).f0) rfl; have hf_0 := RW9.frozen (i * 5 + 0); have hd_1 := RW9.cell delf37_flat rfl z37 i 1 hix (.int .i64 (xs.getD i z37).f1) rfl; have hf_1 := RW9.frozen (i * 5 + 1); have hd_2 := RW9.cell delf37_flat rfl z37 i 2 hix (.int .i64 (xs.getD i z37).f2) rfl; have hf_2 := RW9.frozen (i * 5 + 2); have hd_3 := RW9.cell delf37_flat rfl z37 i 3 hix (.int .i64 (xs.getD i z37).f3) rfl; have hf_3 := RW9.frozen (i * 5 + 3); have hd_4 := RW9.cell delf37_flat rfl z37 i 4 hix (.int .i64 (xs.getD i z37).f4) rfl; have hf_4 := RW9.frozen (i * 5 + 4); rw [Nat.add_zero] at hd_0 hf_0; have HW9 := Aside0.mk RW9; clear RW9; clear hb9))
    go_roundg (l0.length - (j + 1))
    case measure => have := HK.out.2; omega
    case rel =>
     have hk2 := HK.out.1.keep z37 hlt (by rw [← HX0.out]; exact HPX.out)
     rw [← HX0.out] at hk2
     exact ⟨i + 1, j + 1, xs.set i x, by go_num, by go_num, ⟨hk2, Nat.le_refl _⟩, ⟨DG.grown_row (DG.grown_below (DG.grown_below HG.out (below_alloc (Below.refl _ _) _)) HB9.out) (IN.grown_set (g := g) ([.int .i64 x.f0, .int .i64 x.f1, .int .i64 x.f2, .int .i64 x.f3, .int .i64 x.f4] : List Value) (i * 5))⟩, ⟨HW9.out.set delf37_flat rfl i x hix⟩⟩
  ·
   have hj : j = l0.length := by have := HK.out.1.le; omega
   subst hj
   have hil : i < l0.length := HK.out.1.lt
   have hlen := HK.out.1.len
   have hic : i < c := by omega
   have hic2 : ¬ (c = i) := by omega
   have hcl := fun ty => DL.run_clear_k (P := Try.prog) wr 25 37 ty (.agg #[(.int .i64 0), (.int .i64 0), (.int .i64 0), (.int .i64 0), (.int .i64 0)]) Try.underlying25 delf37_zero 5 rfl (by intro v hv; simp [Value.cells] at hv; simp [hv, Value.oneCell']) g (i * 5) (l0.length - i) (c - i) (fun t ht => HR.out.some_ delf37_flat rfl (i * 5 + t) (by rw [hlen]; omega)) (fun t _ => HR.out.frozen _)
   clear hlen
   go_wp2
   go_ret
   have hdone := HK.out.1.done
   have hlen2 := HK.out.1.len
   have hfl : (l0.filter fun x => !p x).length = i := by rw [← hdone, List.length_take]; omega
   refine ⟨by rw [hfl]; rfl, DG.grown_row HG.out (IN.grown_set _ _), ?_⟩
   rw [← hdone]
   exact HR.out.cut delf37_flat rfl i (by omega) _ (by rw [DL.zeroCells_len, hlen2]; rfl)
set_option maxHeartbeats 8000000 in
set_option maxRecDepth 100000 in
theorem DeleteFunc_st37.none_ (A0 : Option Addr) (c0 : Nat) (l0 : List (S37)) (fc : FuncId) (caps : Array Value) (p : S37 → Bool) (w : World) (hr0 : Kd.C k37 w A0 l0.length l0) (hc0 : l0.length ≤ c0) (hp : X0.FnB Try.prog fc caps w (fun x => .agg #[.int .i64 x.f0, .int .i64 x.f1, .int .i64 x.f2, .int .i64 x.f3, .int .i64 x.f4]) p) (hx : X0.idx p l0 = -1) :
 Calls Try.prog 79 #[.slice A0 l0.length c0, .func (.func fc) #[] caps] w fun e w' => e = .returned (.slice A0 l0.length c0) ∧ Below w.heap.size w w' := by
 have HI := Aside0.mk (IndexFunc_st37.calls A0 c0 l0 fc caps p w hr0 hc0 hp)
 have HX := Aside0.mk hx
 clear hr0 hc0 hp hx
 go_enter Try.func79, Try.ntmps79
 go_wp2_with (go_at_call 78; refine HI.out.mono ?_; rintro e w6 ⟨rfl, hb6⟩; rw [HX.out]; have HB := Aside0.mk hb6; clear hb6)
 go_ret
 exact ⟨rfl, HB.out⟩
theorem DeleteFunc_st37.calls (base : Nat) (ok : Nat → Prop) (v : Value) (l0 : List (S37)) (fc : FuncId) (caps : Array Value) (p : S37 → Bool) (w : World) (ho : Kd.R k37 37 w base ok v l0) (hl : l0.length < 1048577) (hb : X0.FnB Try.prog fc caps w (fun x => .agg #[.int .i64 x.f0, .int .i64 x.f1, .int .i64 x.f2, .int .i64 x.f3, .int .i64 x.f4]) p)
 (hp : ∀ g, v.ownBlock = some g → base ≤ g → DG.FnG Try.prog fc caps w g (fun x : S37 => .agg #[.int .i64 x.f0, .int .i64 x.f1, .int .i64 x.f2, .int .i64 x.f3, .int .i64 x.f4]) p) :
 Calls Try.prog 79 #[v, .func (.func fc) #[] caps] w fun e w' => ∃ v', e = .returned v' ∧ Kd.R k37 37 w' base ok v' (l0.filter fun x => !p x) ∧ w.grownBy w' v.ownBlock := by
 rcases DG.idx_cases p z37 l0 with ⟨hx, ha⟩ | ⟨i0, hi0, hx, ht, ha⟩
 ·
  obtain ⟨A0, c0, e0⟩ := Kd.R_slice ho
  subst e0
  have hr := Kd.R_reads' ho
  refine (DeleteFunc_st37.none_ A0 c0 l0 fc caps p w hr.2.2 hr.2.1 hb hx).mono ?_
  rintro e w' ⟨rfl, hb'⟩
  rw [DG.filter_all p l0 ha]
  exact ⟨_, rfl, Kd.R_below ho hb', grown_of_below hb' _⟩
 ·
  obtain ⟨hv, hv2⟩ | ⟨g, c, rfl⟩ := IN.R_cases ho
  ·
   subst hv2
   exact absurd hi0 (Nat.not_lt_zero _)
  obtain ⟨n1, n2, n3, n4, n5, _⟩ := IN.R_raw delf37_flat ho
  have hraw := DG.Raw.of_R delf37_flat ho
  have hFG := hp g (by simp [Value.ownBlock]) n4
  refine (DeleteFunc_st37.some_ g c i0 l0 fc caps p w hraw n2 n3 hl hFG hi0 hx ht ha).mono ?_
  rintro e w' ⟨rfl, hg, hr⟩
  have hfl : (l0.filter fun x => !p x).length ≤ c := Nat.le_trans (List.length_filter_le _ _) n2
  exact ⟨_, rfl, hr.to_R delf37_flat rfl n4 n5 hfl n3, by simpa [Value.ownBlock] using hg⟩
def impl_lotsOf.f (l0 : List (S37)) (a1 a2 : Int) : Option (List (S37)) := if l0.length < 1048577 then some (l0.filter fun x => decide (x.f0 = a1 ∧ x.f1 = a2)) else none
theorem impl_lotsOf.is_ (x : S37) (a1 a2 : Int) : impl_isLot.f x.f0 x.f1 x.f2 x.f3 x.f4 a1 a2 = some (decide (x.f0 = a1 ∧ x.f1 = a2)) := by
 unfold impl_isLot.f
 by_cases h1 : x.f0 = a1 <;> by_cases h2 : x.f1 = a2 <;> simp [h1, h2]
set_option maxHeartbeats 8000000 in
set_option maxRecDepth 100000 in
theorem impl_lotsOf.clo (B1 B2 : Nat) (a1 a2 : Int) (x : S37) (W : World) (h1 : W.cell? ⟨B1, 0, none⟩ = some (.int .i64 a1)) (h2 : W.cell? ⟨B2, 0, none⟩ = some (.int .i64 a2)) :
 Calls Try.prog 80 #[.agg #[.int .i64 x.f0, .int .i64 x.f1, .int .i64 x.f2, .int .i64 x.f3, .int .i64 x.f4], .pointer (some ⟨B1, 0, none⟩), .pointer (some ⟨B2, 0, none⟩)] W fun e W' => e = .returned (.bool (!decide (x.f0 = a1 ∧ x.f1 = a2))) ∧ Below W.heap.size W W' := by
 have HB := Aside0.mk (Below.refl W.heap.size W)
 have HI := Aside0.mk (impl_lotsOf.is_ x a1 a2)
 obtain ⟨q, hq⟩ : ∃ q, decide (x.f0 = a1 ∧ x.f1 = a2) = q := ⟨_, rfl⟩
 rw [hq] at HI ⊢
 clear hq
 have HQ := Aside0.mk (show ∀ W2, Below W.heap.size W W2 → Calls Try.prog 81 #[.agg #[.int .i64 x.f0, .int .i64 x.f1, .int .i64 x.f2, .int .i64 x.f3, .int .i64 x.f4], .int .i64 a1, .int .i64 a2] W2 fun e W' => e = .returned (.bool q) ∧ Below W2.heap.size W2 W' from fun W2 _ => impl_isLot.calls _ _ _ _ _ _ _ q W2 HI.out)
 have g1 := Lib.cell?_alloc_some (.cells #[.int .i64 x.f0, .int .i64 x.f1, .int .i64 x.f2, .int .i64 x.f3, .int .i64 x.f4] 37 (0, 0)) h1
 have g2 := Lib.cell?_alloc_some (.cells #[.int .i64 x.f0, .int .i64 x.f1, .int .i64 x.f2, .int .i64 x.f3, .int .i64 x.f4] 37 (0, 0)) h2
 clear h1 h2
 go_enter Try.func80, Try.ntmps80
 go_wp2_with (go_at_call 81; refine (HQ.out _ (below_alloc HB.out _)).mono ?_; rintro e w6 ⟨rfl, hb6⟩; have HB6 := Aside0.mk hb6; clear hb6)
 all_goals
  go_ret
  exact ⟨by first | rfl | (simp; done) | (simp [*]; done), below_step (below_alloc HB.out _) HB6.out⟩
theorem impl_lotsOf.up (w : World) (o1 o2 : Obj) : w.heap.size ≤ ((w.alloc o1).alloc o2).heap.size := by simp; omega
theorem impl_lotsOf.lt1 {w : World} {o1 o2 : Obj} {g : Nat} (h : ((w.alloc o1).alloc o2).heap.size ≤ g) : w.heap.size < g := by simp at h; omega
theorem impl_lotsOf.lt2 {w : World} {o1 o2 : Obj} {g : Nat} (h : ((w.alloc o1).alloc o2).heap.size ≤ g) : w.heap.size + 1 < g := by simp at h; omega
theorem impl_lotsOf.c1 {w w5 : World} {u1 : Value} {t : Nat} {o2 : Obj} (hb : Below ((w.alloc (.cells #[u1] t (0, 0))).alloc o2).heap.size ((w.alloc (.cells #[u1] t (0, 0))).alloc o2) w5) : w5.cell? ⟨w.heap.size, 0, none⟩ = some u1 :=
 (hb.cell (by simp; omega)).trans (Lib.cell?_alloc_some o2 (DG.cell_new w #[u1] t 0))
theorem impl_lotsOf.c2 {w w5 : World} {o1 : Obj} {u2 : Value} {t : Nat} (hb : Below ((w.alloc o1).alloc (.cells #[u2] t (0, 0))).heap.size ((w.alloc o1).alloc (.cells #[u2] t (0, 0))) w5) : w5.cell? ⟨w.heap.size + 1, 0, none⟩ = some u2 := by
 have e : (w.alloc o1).heap.size = w.heap.size + 1 := by simp
 have h := DG.cell_new (w.alloc o1) #[u2] t 0
 rw [e] at h
 exact (hb.cell (by simp)).trans h
theorem impl_lotsOf.own {w : World} {base : Nat} {ok : Nat → Prop} {v : Value} {xs : List (S37)} (h : Kd.R k37 37 w base ok v xs) (k : Nat) (hk : v.ownBlock = some k) : base ≤ k := by
 obtain ⟨hv, _⟩ | ⟨g, c, rfl⟩ := IN.R_cases h
 ·
  subst hv
  simp [Value.ownBlock] at hk
 ·
  obtain ⟨_, _, _, n4, _, _⟩ := IN.R_raw delf37_flat h
  simp [Value.ownBlock] at hk
  omega
theorem impl_lotsOf.predB {B1 B2 : Nat} {a1 a2 : Int} {w : World} (c1 : w.cell? ⟨B1, 0, none⟩ = some (.int .i64 a1)) (c2 : w.cell? ⟨B2, 0, none⟩ = some (.int .i64 a2)) :
 X0.FnB Try.prog 80 #[.pointer (some ⟨B1, 0, none⟩), .pointer (some ⟨B2, 0, none⟩)] w (fun x : S37 => .agg #[.int .i64 x.f0, .int .i64 x.f1, .int .i64 x.f2, .int .i64 x.f3, .int .i64 x.f4]) (fun x => !decide (x.f0 = a1 ∧ x.f1 = a2)) :=
 ⟨_, Try.func80, by kernel_rfl, rfl, fun x W hW => impl_lotsOf.clo B1 B2 a1 a2 x W ((hW.cell (World.block_lt_of_cell? w _ c1)).trans c1) ((hW.cell (World.block_lt_of_cell? w _ c2)).trans c2)⟩
theorem impl_lotsOf.predG {B1 B2 g : Nat} {a1 a2 : Int} {w : World} (c1 : w.cell? ⟨B1, 0, none⟩ = some (.int .i64 a1)) (c2 : w.cell? ⟨B2, 0, none⟩ = some (.int .i64 a2)) (n1 : B1 < g) (n2 : B2 < g) :
 DG.FnG Try.prog 80 #[.pointer (some ⟨B1, 0, none⟩), .pointer (some ⟨B2, 0, none⟩)] w g (fun x : S37 => .agg #[.int .i64 x.f0, .int .i64 x.f1, .int .i64 x.f2, .int .i64 x.f3, .int .i64 x.f4]) (fun x => !decide (x.f0 = a1 ∧ x.f1 = a2)) :=
 ⟨_, Try.func80, by kernel_rfl, rfl, fun x W hW => impl_lotsOf.clo B1 B2 a1 a2 x W (hW.cell c1 (by simp; omega)) (hW.cell c2 (by simp; omega))⟩
set_option maxHeartbeats 8000000 in
set_option maxRecDepth 100000 in
theorem impl_lotsOf.calls (A0 : Option Addr) (c0 : Nat) (l0 : List (S37)) (a1 a2 : Int) (r : List (S37)) (w : World) (hr0 : Kd.C k37 w A0 l0.length l0) (hc0 : l0.length ≤ c0) (h : impl_lotsOf.f l0 a1 a2 = some r) :
 Calls Try.prog 47 #[.slice A0 l0.length c0, .int .i64 a1, .int .i64 a2] w fun e w' => ∃ v0_ : Value, e = .returned (v0_) ∧ Kd.R k37 37 w' w.heap.size (fun _ => True) v0_ r ∧ Below w.heap.size w w' := by
 unfold impl_lotsOf.f at h
 by_cases hl : l0.length < 1048577
 ·
  rw [if_pos hl] at h
  obtain rfl := Option.some.inj h
  clear h
  have hcl : impl_Lot_55.f l0 = some l0 := by
   unfold impl_Lot_55.f
   rw [Option.bind_some, List.length_nil, if_pos (by omega), List.nil_append]
  have HC := Aside0.mk hcl
  have HR0 := Aside0.mk hr0
  have HC0 := Aside0.mk hc0
  have HB := Aside0.mk (Below.refl w.heap.size w)
  have HL := Aside0.mk hl
  clear hr0 hc0 hcl hl
  go_enter Try.func47, Try.ntmps47
  go_wp2_with (first | (go_at_call 55; refine (impl_Lot_55.calls A0 c0 l0 l0 _ (Kd.C_alloc (Kd.C_alloc HR0.out _) _) HC0.out HC.out).mono ?_; rintro e w5 ⟨v, rfl, ho, hb⟩; have HO := Aside0.mk ho; have HB5 := Aside0.mk hb; clear ho hb) | (go_at_call 79; refine (DeleteFunc_st37.calls _ _ v l0 80 #[.pointer (some ⟨w.heap.size, 0, none⟩), .pointer (some ⟨w.heap.size + 1, 0, none⟩)] (fun x => !decide (x.f0 = a1 ∧ x.f1 = a2)) _ HO.out HL.out (impl_lotsOf.predB (impl_lotsOf.c1 HB5.out) (impl_lotsOf.c2 HB5.out)) (fun g _ hg => impl_lotsOf.predG (impl_lotsOf.c1 HB5.out) (impl_lotsOf.c2 HB5.out) (impl_lotsOf.lt1 hg) (impl_lotsOf.lt2 hg))).mono ?_; rintro e w6 ⟨v6, rfl, ho, hg⟩; have HO6 := Aside0.mk ho; have HG6 := Aside0.mk hg; clear ho hg))
  go_ret
  have hsz := impl_lotsOf.up w (.cells #[.int .i64 a1] 3 (0, 0)) (.cells #[.int .i64 a2] 3 (0, 0))
  refine ⟨v6, by first | rfl | (simp; done) | (simp [*]; done), ?_, ?_⟩
  ·
   have hR := Kd.R_lower HO6.out hsz
   have e : (l0.filter fun x => !(!decide (x.f0 = a1 ∧ x.f1 = a2))) = l0.filter fun x => decide (x.f0 = a1 ∧ x.f1 = a2) := by simp only [Bool.not_not]
   rw [e] at hR
   exact hR
  ·
   have hb5 := below_step (below_alloc (below_alloc (Below.refl _ _) _) _) HB5.out
   exact hb5.grown HG6.out (below_size hb5) (fun k hk => Nat.le_trans hsz (impl_lotsOf.own HO.out k hk))
 ·
  rw [if_neg hl] at h
  cases h
def impl_AmountOk.f (a0 : Int) : Option (Bool) := (impl_in.f a0 (-1000000000000000) 1000000000000000).bind fun t154 => (some t154)
set_option maxHeartbeats 8000000 in
set_option maxRecDepth 100000 in
theorem impl_AmountOk.calls (a0 : Int) (r : Bool) (w : World) (h : impl_AmountOk.f a0 = some r) :
 Calls Try.prog 48 #[.int .i64 a0] w fun e w' => e = .returned (.bool r) ∧ Drawn0 w w' := by
 have H : ((impl_in.f a0 (-1000000000000000) 1000000000000000).bind fun t154 => (some t154)) = some r := h
 clear h
 replace H := Option.bind_eq_some_iff.mp H
 obtain ⟨t154, A20, H⟩ := H
 have A2 := Aside0.mk A20
 clear A20
 obtain rfl := Option.some.inj H
 go_enter Try.func48, Try.ntmps48
 go_wp2_with (first | ((with_reducible refine gate_callee (f := 65) rfl ?_); refine goesL_ (some 4) rfl rfl Try.func65 kr_ rfl #[.int .i64 a0, .int .i64 (-1000000000000000), .int .i64 1000000000000000] rfl (bc_) ?_; (with_reducible refine (impl_in.calls a0 (-1000000000000000) 1000000000000000 t154 _ A2.out).mono ?_); rintro e w' ⟨rfl, ⟨nd, rfl⟩⟩; refine ⟨_, rfl, ?_⟩))
 go_ret
 exact ⟨by first | rfl | (simp; done) | (simp [*]; done), by repeat (first | exact Drawn0.refl _ | apply Drawn0.step)⟩
end Go.Proofs.Ytomanpmffjkkgaa.P
namespace Go.Proofs.Ytomanpmffjkkgaa.P
open Go.RowKit Go.Proofs.YtomanpmffjkkgaaW.PrintWords Go.Proofs.YtomanpmffjkkgaaW.PrintLast Go.Proofs.YtomanpmffjkkgaaW.PrintMore
attribute [local go_sem] max2_int min2_int max_two min_two max_three min_three max_four min_four   -- for this text's walks alone
set_option linter.unusedVariables false
set_option linter.unusedSimpArgs false
def impl_LotsOk.form (x : S37) : Bool := decide ((1 ≤ x.f0 ∧ x.f0 ≤ 1000) ∧ (1 ≤ x.f1 ∧ x.f1 ≤ 1000) ∧ (1 ≤ x.f2 ∧ x.f2 ≤ 1000000000) ∧ (1 ≤ x.f3 ∧ x.f3 ≤ 1000000000000000) ∧ 0 ≤ x.f4 ∧ x.f4 ≤ 1000000000000000)
def impl_LotsOk.cmp (a b : S37) : Int := if a.f0 < b.f0 then -1 else if b.f0 < a.f0 then 1 else if a.f1 < b.f1 then -1 else if b.f1 < a.f1 then 1 else if a.f2 < b.f2 then -1 else if b.f2 < a.f2 then 1 else 0
def impl_LotsOk.chk (l : List (S37)) : Nat → Nat → Bool
 | 0, _ => true
 | n + 1, i => if impl_LotsOk.form (l.getD i z37) = true ∧ ¬(0 < i ∧ 0 ≤ impl_LotsOk.cmp (l.getD (i - 1) z37) (l.getD i z37)) then impl_LotsOk.chk l n (i + 1) else false
def impl_LotsOk.sum3 (l : List (S37)) (q : Int) : Int := l.foldl (fun q x => wrap64 (q + x.f3)) q
def impl_LotsOk.sum4 (l : List (S37)) (q : Int) : Int := l.foldl (fun q x => wrap64 (q + x.f4)) q
def impl_LotsOk.amt (a : Int) : Bool := decide (-1000000000000000 ≤ a ∧ a ≤ 1000000000000000)
def impl_LotsOk.of (l : List (S37)) (a b : Int) : List (S37) := l.filter fun x => decide (x.f0 = a ∧ x.f1 = b)
def impl_LotsOk.over (l : List (S37)) (x : S37) : Bool := if impl_LotsOk.amt (impl_LotsOk.sum3 (impl_LotsOk.of l x.f0 x.f1) 0) = true then !impl_LotsOk.amt (impl_LotsOk.sum4 (impl_LotsOk.of l x.f0 x.f1) 0) else true
def impl_LotsOk.ok (l : List (S37)) : Bool := if impl_LotsOk.chk l l.length 0 = true then (if (l.length : Int) > 120 then false else !(l.any (impl_LotsOk.over l))) else false
def impl_LotsOk.f (l0 : List (S37)) : Option Bool := if l0.length < 1048577 then some (impl_LotsOk.ok l0) else none
theorem impl_LotsOk.in_ (a lo hi : Int) : impl_in.f a lo hi = some (decide (lo ≤ a ∧ a ≤ hi)) := by
 unfold impl_in.f
 by_cases h : a ≥ lo
 ·
  rw [if_pos h]
  congr 1
  rw [Bool.eq_iff_iff, decide_eq_true_iff, decide_eq_true_iff]
  omega
 ·
  rw [if_neg h]
  congr 1
  symm
  rw [decide_eq_false_iff_not]
  omega
theorem impl_LotsOk.amt_ (a : Int) : impl_AmountOk.f a = some (impl_LotsOk.amt a) := by
 unfold impl_AmountOk.f impl_LotsOk.amt
 rw [impl_LotsOk.in_]
 rfl
theorem impl_LotsOk.no_ (a : Int) : impl_isNo.f a = some (decide (1 ≤ a ∧ a ≤ 1000)) := by
 unfold impl_isNo.f
 rw [impl_LotsOk.in_]
 rfl
theorem impl_LotsOk.form_ (x : S37) : impl_lotForm.f x.f0 x.f1 x.f2 x.f3 x.f4 = some (impl_LotsOk.form x) := by
 unfold impl_lotForm.f impl_LotsOk.form
 simp only [impl_LotsOk.in_, impl_LotsOk.no_, Option.bind_some]
 by_cases h0 : 1 ≤ x.f0 ∧ x.f0 ≤ 1000
 ·
  by_cases h1 : 1 ≤ x.f1 ∧ x.f1 ≤ 1000
  ·
   by_cases h2 : 1 ≤ x.f2 ∧ x.f2 ≤ 1000000000
   ·
    by_cases h3 : 1 ≤ x.f3 ∧ x.f3 ≤ 1000000000000000 <;> simp [h0, h1, h2, h3]
   ·
    simp [h0, h1, h2]
  ·
   simp [h0, h1]
 ·
  simp [h0]
theorem impl_LotsOk.cmp_ (a b : S37) : impl_lotBefore.f 1 a.f0 a.f1 a.f2 a.f3 a.f4 b.f0 b.f1 b.f2 b.f3 b.f4 = some (impl_LotsOk.cmp a b) := by
 unfold impl_lotBefore.f impl_byBoth.f impl_LotsOk.cmp
 simp only [impl_byBoth.j0]
 by_cases h0 : a.f0 < b.f0
 ·
  simp [h0]
 ·
  by_cases h1 : a.f0 = b.f0
  ·
   have n1 : ¬b.f0 < a.f0 := by omega
   by_cases h2 : a.f1 < b.f1
   ·
    simp [h1, h2]
   ·
    by_cases h3 : a.f1 = b.f1
    ·
     by_cases h4 : a.f2 < b.f2
     ·
      simp [h1, h3, h4]
     ·
      by_cases h5 : b.f2 < a.f2 <;> simp [h1, h3, h4, h5]
    ·
     have n3 : b.f1 < a.f1 := by omega
     simp [h1, h2, h3, n3]
  ·
   have n1 : b.f0 < a.f0 := by omega
   simp [h0, h1, n1]
theorem impl_LotsOk.sum_go (l : List (S37)) (hl : l.length < 1048577) : ∀ (n i : Nat) (q c : Int), l.length - i = n → i ≤ l.length → impl_sumLots.l0 (n + 1) q c l (l.length : Int) (i : Int) = some (impl_LotsOk.sum3 (l.drop i) q, impl_LotsOk.sum4 (l.drop i) c)
 | 0, i, q, c, hn, hi => by
  have e : i = l.length := by omega
  subst e
  rw [impl_sumLots.l0, if_neg (by omega), List.drop_length]
  rfl
 | n + 1, i, q, c, hn, hi => by
  have h1 : i < l.length := by omega
  rw [impl_sumLots.l0, if_pos (by omega), if_pos (by omega), if_pos (by omega)]
  have hw : wrap64 ((i : Int) + 1) = ((i + 1 : Nat) : Int) := by
   unfold wrap64
   omega
  rw [hw, impl_LotsOk.sum_go l hl n (i + 1) _ _ (by omega) (by omega), List.drop_eq_getElem_cons h1]
  have e : rd_T37 l (i : Int) = l[i] := by
   unfold rd_T37
   rw [Int.toNat_natCast, List.getD_eq_getElem?_getD, List.getElem?_eq_getElem h1]
   rfl
  rw [e]
  rfl
theorem impl_LotsOk.sum_ (l : List (S37)) (hl : l.length < 1048577) : impl_sumLots.f (l.length + 1) l = some (impl_LotsOk.sum3 l 0, impl_LotsOk.sum4 l 0) := impl_LotsOk.sum_go l hl l.length 0 0 0 (by omega) (by omega)
set_option maxHeartbeats 8000000 in
set_option maxRecDepth 100000 in
theorem impl_LotsOk.clo (B : Nat) (A0 : Option Addr) (c0 : Nat) (l0 : List (S37)) (x : S37) (W : World) (h1 : W.cell? ⟨B, 0, none⟩ = some (.slice A0 l0.length c0)) (hC : Kd.C k37 W A0 l0.length l0) (hc0 : l0.length ≤ c0) (hl : l0.length < 1048577) :
 Calls Try.prog 45 #[.agg #[.int .i64 x.f0, .int .i64 x.f1, .int .i64 x.f2, .int .i64 x.f3, .int .i64 x.f4], .pointer (some ⟨B, 0, none⟩)] W fun e W' => e = .returned (.bool (impl_LotsOk.over l0 x)) ∧ Below W.heap.size W W' := by
 have HB := Aside0.mk (Below.refl W.heap.size W)
 have HC := Aside0.mk hC
 have HC0 := Aside0.mk hc0
 have HF : Aside0 (impl_lotsOf.f l0 x.f0 x.f1 = some (impl_LotsOk.of l0 x.f0 x.f1)) := ⟨by
  unfold impl_lotsOf.f
  rw [if_pos hl]
  rfl⟩
 have HL : Aside0 ((impl_LotsOk.of l0 x.f0 x.f1).length < 1048577) := ⟨Nat.lt_of_le_of_lt (List.length_filter_le _ _) hl⟩
 have HO : Aside0 (impl_LotsOk.over l0 x = if impl_LotsOk.amt (impl_LotsOk.sum3 (impl_LotsOk.of l0 x.f0 x.f1) 0) = true then !impl_LotsOk.amt (impl_LotsOk.sum4 (impl_LotsOk.of l0 x.f0 x.f1) 0) else true) := ⟨rfl⟩
 generalize impl_LotsOk.over l0 x = ov at HO ⊢
 generalize impl_LotsOk.of l0 x.f0 x.f1 = part at HF HL HO
 have HS := Aside0.mk (impl_LotsOk.sum_ part HL.out)
 generalize impl_LotsOk.sum3 part 0 = q at HS HO
 generalize impl_LotsOk.sum4 part 0 = c at HS HO
 have HQ := Aside0.mk (impl_LotsOk.amt_ q)
 have HD := Aside0.mk (impl_LotsOk.amt_ c)
 generalize impl_LotsOk.amt q = bq at HQ HO
 generalize impl_LotsOk.amt c = bc at HD HO
 have g1 := Lib.cell?_alloc_some (.cells #[.int .i64 x.f0, .int .i64 x.f1, .int .i64 x.f2, .int .i64 x.f3, .int .i64 x.f4] 37 (0, 0)) h1
 clear h1 hC hc0 hl
 cases bq with
 | true =>
  obtain rfl : ov = !bc := HO.out
  clear HO
  go_enter Try.func45, Try.ntmps45
  go_wp2_with (first | (go_at_call 47; refine (impl_lotsOf.calls A0 c0 l0 x.f0 x.f1 part _ (Kd.C_alloc HC.out _) HC0.out HF.out).mono ?_; rintro e w5 ⟨v, rfl, ho, hb⟩; obtain ⟨A1, c1, rfl, hc1, hr1⟩ := Kd.R_reads ho; have n0_ := Aside0.mk (below_step (below_alloc HB.out _) hb); have HR1 := Aside0.mk hr1; have HC1 := Aside0.mk hc1; clear HB; have HB := n0_; clear n0_ ho hb hr1 hc1) | (go_at_call 46; refine (impl_sumLots.calls (part.length + 1) A1 c1 part q c _ HR1.out HC1.out HS.out).mono ?_; rintro e w6 ⟨rfl, hb⟩; have n0_ := Aside0.mk (below_step HB.out hb); clear HB; have HB := n0_; clear n0_ hb) | (go_at_call_of 48 (Value.int .i64 q); refine (impl_AmountOk.calls q _ _ HQ.out).mono ?_; rintro e w7 ⟨rfl, ⟨nd, rfl⟩⟩) | (go_at_call_of 48 (Value.int .i64 c); refine (impl_AmountOk.calls c _ _ HD.out).mono ?_; rintro e w8 ⟨rfl, ⟨nd, rfl⟩⟩))
  go_ret
  exact ⟨by first | rfl | (simp; done) | (simp [*]; done), bb_⟩
 | false =>
  obtain rfl : ov = true := HO.out
  clear HO
  go_enter Try.func45, Try.ntmps45
  go_wp2_with (first | (go_at_call 47; refine (impl_lotsOf.calls A0 c0 l0 x.f0 x.f1 part _ (Kd.C_alloc HC.out _) HC0.out HF.out).mono ?_; rintro e w5 ⟨v, rfl, ho, hb⟩; obtain ⟨A1, c1, rfl, hc1, hr1⟩ := Kd.R_reads ho; have n0_ := Aside0.mk (below_step (below_alloc HB.out _) hb); have HR1 := Aside0.mk hr1; have HC1 := Aside0.mk hc1; clear HB; have HB := n0_; clear n0_ ho hb hr1 hc1) | (go_at_call 46; refine (impl_sumLots.calls (part.length + 1) A1 c1 part q c _ HR1.out HC1.out HS.out).mono ?_; rintro e w6 ⟨rfl, hb⟩; have n0_ := Aside0.mk (below_step HB.out hb); clear HB; have HB := n0_; clear n0_ hb) | (go_at_call 48; refine (impl_AmountOk.calls q _ _ HQ.out).mono ?_; rintro e w7 ⟨rfl, ⟨nd, rfl⟩⟩))
  go_ret
  exact ⟨by first | rfl | (simp; done) | (simp [*]; done), bb_⟩
theorem impl_LotsOk.pred {B : Nat} {A0 : Option Addr} {c0 : Nat} {l0 : List (S37)} {w : World} (h1 : w.cell? ⟨B, 0, none⟩ = some (.slice A0 l0.length c0)) (hC : Kd.C k37 w A0 l0.length l0) (hc0 : l0.length ≤ c0) (hl : l0.length < 1048577) :
 X0.FnB Try.prog 45 #[.pointer (some ⟨B, 0, none⟩)] w (fun x : S37 => .agg #[.int .i64 x.f0, .int .i64 x.f1, .int .i64 x.f2, .int .i64 x.f3, .int .i64 x.f4]) (impl_LotsOk.over l0) :=
 ⟨_, Try.func45, by kernel_rfl, rfl, fun x W hW => impl_LotsOk.clo B A0 c0 l0 x W ((hW.cell (World.block_lt_of_cell? w _ h1)).trans h1) (Kd.C_below hC hW) hc0 hl⟩
def impl_LotsOk.T4 : Bool × List (List Nat × List Nat) := (true, [([], []), ([0], [0]), ([1], [1]), ([2, 1], [2]), ([3], [3]), ([4, 3], [3, 4]), ([5, 3, 3], [3, 5]), ([6], [6]), ([6], [6]), ([8, 6], [6, 8]), ([7, 9, 6], [6, 7, 9]), ([10, 6], [6, 10]), ([6], [6]), ([11, 12, 6, 6], [6, 11, 12]), ([13, 6], [6, 13]), ([6, 14, 3], [3, 6, 14]), ([3, 15], [3, 15])])
def impl_LotsOk.B4 : List Nat := [0, 1, 3, 7, 15, 31, 63, 127, 127, 383, 1023, 2047, 127, 8191, 16383, 32767, 65535]
theorem impl_LotsOk.tab4 : rtab .any (opsOf Try.f17 4) = impl_LotsOk.T4 := by kernel_rfl
theorem impl_LotsOk.bits4 : waitsOk impl_LotsOk.T4.2 impl_LotsOk.B4 = true := by kernel_rfl
theorem impl_LotsOk.step_ (l : List (S37)) (n : Nat) (x : Int) (h0 : 0 ≤ x) : impl_LotsOk.chk l (n + 1) x.toNat = if impl_LotsOk.form (rd_T37 l x) = true then (if x > 0 then (if 0 ≤ impl_LotsOk.cmp (rd_T37 l (x - 1)) (rd_T37 l x) then false else impl_LotsOk.chk l n (x + 1).toNat) else impl_LotsOk.chk l n (x + 1).toNat) else false := by
 have e1 : (x + 1).toNat = x.toNat + 1 := by omega
 have e2 : (x - 1).toNat = x.toNat - 1 := by omega
 have e3 : x > 0 ↔ 0 < x.toNat := by omega
 unfold rd_T37
 rw [impl_LotsOk.chk, e1, e2]
 generalize impl_LotsOk.form (l.getD x.toNat z37) = b
 generalize impl_LotsOk.cmp (l.getD (x.toNat - 1) z37) (l.getD x.toNat z37) = c
 cases b
 ·
  simp
 ·
  by_cases h1 : 0 < x.toNat
  ·
   have h2 : 0 < x := e3.2 h1
   by_cases h3 : 0 ≤ c
   ·
    simp [h1, h2, h3]
   ·
    simp [h1, h2, h3]
  ·
   have h2 : ¬0 < x := fun h => h1 (e3.1 h)
   simp [h1, h2]
set_option maxHeartbeats 16000000 in
set_option maxRecDepth 100000 in
theorem impl_LotsOk.calls (A0 : Option Addr) (c0 : Nat) (l0 : List (S37)) (r : Bool) (w : World) (hr0 : Kd.C k37 w A0 l0.length l0) (hc0 : l0.length ≤ c0) (h : impl_LotsOk.f l0 = some r) :
 Calls Try.prog 17 #[.slice A0 l0.length c0] w fun e w' => e = .returned (.bool r) ∧ Below w.heap.size w w' := by
 have hu37 := Try.underlying37
 unfold impl_LotsOk.f at h
 by_cases hl : l0.length < 1048577
 ·
  rw [if_pos hl] at h
  obtain rfl := Option.some.inj h
  clear h
  have HL := Aside0.mk hl
  have HC0 := Aside0.mk hc0
  have HQ : Aside0 (impl_LotsOk.ok l0 = if impl_LotsOk.chk l0 l0.length 0 = true then (if (l0.length : Int) > 120 then false else !(l0.any (impl_LotsOk.over l0))) else false) := ⟨rfl⟩
  generalize impl_LotsOk.ok l0 = r at HQ ⊢
  generalize hq0 : impl_LotsOk.chk l0 l0.length 0 = q0 at HQ
  have HK := Aside0.mk hq0
  clear hq0
  have HW := Aside0.mk (below_alloc (Below.refl w.heap.size w) (.cells #[.slice A0 l0.length c0] 25 (0, 0)))
  have HX : Aside0 ((w.alloc (.cells #[.slice A0 l0.length c0] 25 (0, 0))).cell? ⟨w.heap.size, 0, none⟩ = some (.slice A0 l0.length c0)) := ⟨DG.cell_new w #[.slice A0 l0.length c0] 25 0⟩
  have HR1 := Aside0.mk (Kd.C_alloc hr0 (.cells #[.slice A0 l0.length c0] 25 (0, 0)))
  clear hr0 hc0 hl
  go_enter Try.func17, Try.ntmps17
  go_wp2
  generalize w.alloc (.cells #[.slice A0 l0.length c0] 25 (0, 0)) = w1 at HW HX HR1 ⊢
  have HB := Aside0.mk (Below.refl w1.heap.size w1)
  go_loopg [7] l0.length (fun kq v7 w' => ∃ (x : Int), v7 = .int .i64 x ∧ Aside0 (0 ≤ x ∧ x ≤ l0.length ∧ kq = (l0.length - x).toNat ∧ impl_LotsOk.chk l0 (l0.length - x).toNat x.toNat = q0) ∧ Aside0 (Below w1.heap.size w1 w'))
  case atStart => exact ⟨0, rfl, ⟨Int.le_refl _, by omega, by omega, by rw [Int.sub_zero, Int.toNat_natCast]; exact HK.out⟩, ⟨HB.out⟩⟩
  case round =>
   clear HB
   obtain ⟨x, rfl, HA, HB⟩ := hrel
   by_cases c3 : x < (l0.length : Int)
   ·
    have c3b0 : decide (x < (l0.length : Int)) = true := decide_eq_true c3
    have p1 : 0 ≤ x := HA.out.1
    have HKx : Aside0 (impl_LotsOk.chk l0 ((l0.length - (x + 1)).toNat + 1) x.toNat = q0) := ⟨by
     have h1 := HA.out.2.2.2
     have e1 : (l0.length - x).toNat = (l0.length - (x + 1)).toNat + 1 := by omega
     rw [e1] at h1
     exact h1⟩
    have C3 := Aside0.mk c3
    obtain ⟨ad, e, hx_0, hx_1, hx_2, hx_3, hx_4⟩ := at_T37 HR1.out x p1 c3
    cases e
    replace hx_0 := (HB.out.cell (World.block_lt_of_cell? w1 _ hx_0)).trans hx_0
    replace hx_1 := (HB.out.cell (World.block_lt_of_cell? w1 _ hx_1)).trans hx_1
    replace hx_2 := (HB.out.cell (World.block_lt_of_cell? w1 _ hx_2)).trans hx_2
    replace hx_3 := (HB.out.cell (World.block_lt_of_cell? w1 _ hx_3)).trans hx_3
    replace hx_4 := (HB.out.cell (World.block_lt_of_cell? w1 _ hx_4)).trans hx_4
    replace p1 := eq_true p1
    have q1 := eq_true c3
    clear c3
    go_upto_region 4 with (first | ((with_reducible refine gate_dst (N := 4) rfl ?_); refine be_ 4 (cs := #[.int .i64 0, .int .i64 0, .int .i64 0, .int .i64 0, .int .i64 0]) (t := 37) ?_; intro gb hg w6 hbox hb; have n0_ := Aside0.mk (below_step (bb_) hb); have n1_ := Aside0.mk (hbox); have n2_ := Aside0.mk ((by rw [hg]; exact (below_size (bb_)) : w1.heap.size ≤ gb)); clear HB; have HB := n0_; have BK := n1_; have GE := n2_; clear n0_ n1_ n2_; clear hb hbox hg; obtain ⟨hcz_0, hcz_1, hcz_2, hcz_3, hcz_4, hfz_0, hfz_1, hfz_2, hfz_3, hfz_4⟩ := ce5_ BK.out))
    (try simp only [Act.put, List.setIfInBounds_toArray, List.set_cons_zero, List.set_cons_succ])
    have n0_ : Aside0 ((((((w6.setCell ⟨gb, 0, none⟩ (.int .i64 ((rd_T37 l0 x).f0))).setCell ⟨gb, 1, none⟩ (.int .i64 ((rd_T37 l0 x).f1))).setCell ⟨gb, 2, none⟩ (.int .i64 ((rd_T37 l0 x).f2))).setCell ⟨gb, 3, none⟩ (.int .i64 ((rd_T37 l0 x).f3))).setCell ⟨gb, 4, none⟩ (.int .i64 ((rd_T37 l0 x).f4))).heap[gb]? = some (.cells #[.int .i64 ((rd_T37 l0 x).f0), .int .i64 ((rd_T37 l0 x).f1), .int .i64 ((rd_T37 l0 x).f2), .int .i64 ((rd_T37 l0 x).f3), .int .i64 ((rd_T37 l0 x).f4)] 37 (0, 0))) := ⟨by (with_reducible repeat (first | refine blk_drewN ?_ _ | refine blk_drew ?_ | refine blk_alloc ?_ _)); refine blk_put (cs := #[.int .i64 ((rd_T37 l0 x).f0), .int .i64 ((rd_T37 l0 x).f1), .int .i64 ((rd_T37 l0 x).f2), .int .i64 ((rd_T37 l0 x).f3), .int .i64 0]) ?_ 4 _ rfl; (with_reducible repeat (first | refine blk_drewN ?_ _ | refine blk_drew ?_ | refine blk_alloc ?_ _)); refine blk_put (cs := #[.int .i64 ((rd_T37 l0 x).f0), .int .i64 ((rd_T37 l0 x).f1), .int .i64 ((rd_T37 l0 x).f2), .int .i64 0, .int .i64 0]) ?_ 3 _ rfl; (with_reducible repeat (first | refine blk_drewN ?_ _ | refine blk_drew ?_ | refine blk_alloc ?_ _)); refine blk_put (cs := #[.int .i64 ((rd_T37 l0 x).f0), .int .i64 ((rd_T37 l0 x).f1), .int .i64 0, .int .i64 0, .int .i64 0]) ?_ 2 _ rfl; (with_reducible repeat (first | refine blk_drewN ?_ _ | refine blk_drew ?_ | refine blk_alloc ?_ _)); refine blk_put (cs := #[.int .i64 ((rd_T37 l0 x).f0), .int .i64 0, .int .i64 0, .int .i64 0, .int .i64 0]) ?_ 1 _ rfl; (with_reducible repeat (first | refine blk_drewN ?_ _ | refine blk_drew ?_ | refine blk_alloc ?_ _)); refine blk_put (cs := #[.int .i64 0, .int .i64 0, .int .i64 0, .int .i64 0, .int .i64 0]) ?_ 0 _ rfl; (with_reducible repeat (first | refine blk_drewN ?_ _ | refine blk_drew ?_ | refine blk_alloc ?_ _)); exact BK.out⟩
    have n1_ : Aside0 (Below w1.heap.size w1 (((((w6.setCell ⟨gb, 0, none⟩ (.int .i64 ((rd_T37 l0 x).f0))).setCell ⟨gb, 1, none⟩ (.int .i64 ((rd_T37 l0 x).f1))).setCell ⟨gb, 2, none⟩ (.int .i64 ((rd_T37 l0 x).f2))).setCell ⟨gb, 3, none⟩ (.int .i64 ((rd_T37 l0 x).f3))).setCell ⟨gb, 4, none⟩ (.int .i64 ((rd_T37 l0 x).f4)))) := ⟨by repeat (first | (with_reducible first | exact HB.out | apply below_alloc | apply pw_below_drewN | apply below_drew1 | refine below_set ?_ GE.out) | exact HB.out)⟩
    (try clear BK)
    (try clear HB)
    generalize (((((w6.setCell ⟨gb, 0, none⟩ (.int .i64 ((rd_T37 l0 x).f0))).setCell ⟨gb, 1, none⟩ (.int .i64 ((rd_T37 l0 x).f1))).setCell ⟨gb, 2, none⟩ (.int .i64 ((rd_T37 l0 x).f2))).setCell ⟨gb, 3, none⟩ (.int .i64 ((rd_T37 l0 x).f3))).setCell ⟨gb, 4, none⟩ (.int .i64 ((rd_T37 l0 x).f4))) = w15 at n0_ n1_ ⊢
    have BK := n0_
    have HB := n1_
    clear n0_ n1_
    have n0_ := Aside0.mk (blk_drew BK.out)
    have n1_ := Aside0.mk (below_drew1 HB.out)
    clear BK
    clear HB
    have BK := n0_
    have HB := n1_
    clear n0_ n1_
    have HFm := Aside0.mk (impl_LotsOk.form_ (rd_T37 l0 x))
    have HSt := Aside0.mk (impl_LotsOk.step_ l0 (l0.length - (x + 1)).toNat x HA.out.1)
    cases hfm : impl_LotsOk.form (rd_T37 l0 x) with
    | false =>
     have hq : q0 = false := by
      have h1 := HKx.out
      have h2 := HSt.out
      rw [h1, hfm] at h2
      simpa using h2
     rw [hfm] at HFm
     obtain rfl : r = false := by
      have h1 := HQ.out
      rw [hq] at h1
      simpa using h1
     clear HQ HSt hfm hq
     refine start_ (n := 17) (S := fun w' => w'.cell? ⟨gb, 0, none⟩ = some (.int .i64 ((rd_T37 l0 x).f0)) ∧ w'.cell? ⟨gb, 1, none⟩ = some (.int .i64 ((rd_T37 l0 x).f1)) ∧ w'.cell? ⟨gb, 2, none⟩ = some (.int .i64 ((rd_T37 l0 x).f2)) ∧ w'.cell? ⟨gb, 3, none⟩ = some (.int .i64 ((rd_T37 l0 x).f3)) ∧ w'.cell? ⟨gb, 4, none⟩ = some (.int .i64 ((rd_T37 l0 x).f4)) ∧ w'.cell? ⟨w.heap.size, 0, none⟩ = some (.slice (some ad) l0.length c0)) (ds := []) (ba_ 17 0) kr_ rfl rfl ⟨(blk_cell BK.out 0).trans rfl, (blk_cell BK.out 1).trans rfl, (blk_cell BK.out 2).trans rfl, (blk_cell BK.out 3).trans rfl, (blk_cell BK.out 4).trans rfl, ((HB.out.cell (World.block_lt_of_cell? w1 _ HX.out)).trans HX.out)⟩ (fun hHeld => ?_); refine with_tabW impl_LotsOk.tab4 impl_LotsOk.bits4 (fun HT_ HW_ => ?_)
     refine ta_ 0 12 HT_.out HW_.out hHeld (ba_ 17 1) ?_
     refine one_ (i := 1) (N := some 13) (ba_ 17 3) rfl rfl (one_of HT_.out kr_) (by decide) (fun K hK => ?_)
     refine goes_ Try.func42 kr_ rfl #[.agg #[.int .i64 ((rd_T37 l0 x).f0), .int .i64 ((rd_T37 l0 x).f1), .int .i64 ((rd_T37 l0 x).f2), .int .i64 ((rd_T37 l0 x).f3), .int .i64 ((rd_T37 l0 x).f4)]] (by rfl) rfl rfl (by (try simp only [List.map_toArray, List.map_cons, List.map_nil]); first | done | rfl | (simp only [i64_w]; rfl)) ?_
     with_reducible refine (impl_lotForm.calls _ _ _ _ _ false _ HFm.out).mono ?_
     rintro e w7 ⟨rfl, hb⟩
     refine ⟨_, rfl, ?_⟩
     have n0_ := Aside0.mk (blk_below (g := gb) (o := .cells #[.int .i64 ((rd_T37 l0 x).f0), .int .i64 ((rd_T37 l0 x).f1), .int .i64 ((rd_T37 l0 x).f2), .int .i64 ((rd_T37 l0 x).f3), .int .i64 ((rd_T37 l0 x).f4)] 37 (0, 0)) (pb_ BK.out) hb)
     have n1_ := Aside0.mk (below_step (by repeat (first | (with_reducible first | exact HB.out | apply below_alloc | apply pw_below_drewN | apply below_drew1 | refine below_set ?_ GE.out) | exact HB.out)) hb)
     clear BK
     clear HB
     have BK := n0_
     have HB := n1_
     clear n0_ n1_ hb
     refine hK.out _ _ ⟨(blk_cell BK.out 0).trans rfl, (blk_cell BK.out 1).trans rfl, (blk_cell BK.out 2).trans rfl, (blk_cell BK.out 3).trans rfl, (blk_cell BK.out 4).trans rfl, ((HB.out.cell (World.block_lt_of_cell? w1 _ HX.out)).trans HX.out)⟩ (fun hHeld => ?_)
     clear hK K
     refine norm_ (a' := ?_) ?_ ?_
     rotate_left
     ·
      show Act.put _ (some 13) _ = _
      exact sp_
     refine pu_ 2 14 HT_.out (ba_ 17 7) ?_
     refine pu_ 3 15 HT_.out (ba_ 17 15) ?_
     refine sk_ 4 16 HT_.out (ba_ 17 31) ?_
     refine sk_ 5 17 HT_.out (ba_ 17 63) ?_
     refine sk_ 6 18 HT_.out (ba_ 17 127) ?_
     refine sk_ 7 19 HT_.out (ba_ 17 255) ?_
     refine sk_ 8 20 HT_.out (ba_ 17 511) ?_
     refine sk_ 9 21 HT_.out (ba_ 17 1023) ?_
     refine sk_ 10 22 HT_.out (ba_ 17 2047) ?_
     refine sk_ 11 23 HT_.out (ba_ 17 4095) ?_
     refine sk_ 12 24 HT_.out (ba_ 17 8191) ?_
     refine sk_ 13 25 HT_.out (ba_ 17 16383) ?_
     refine sk_ 14 26 HT_.out (ba_ 17 32767) ?_
     refine sk_ 15 27 HT_.out (ba_ 17 65535) ?_
     refine pu_ 16 28 HT_.out (ba_ 17 131071) ?_
     refine done_ (done_of HT_.out kr_) ?_
     go_wp2
     go_ret
     exact ⟨by first | rfl | (simp; done) | (simp [*]; done), below_step HW.out (by repeat (first | (with_reducible first | exact HB.out | apply below_alloc | apply pw_below_drewN | apply below_drew1 | refine below_set ?_ GE.out) | exact HB.out))⟩
    | true =>
     rw [hfm] at HFm
     by_cases c10 : x > 0
     ·
      have c10b0 : decide (0 < x) = true := decide_eq_true c10
      have hw1 : wrap64 (x - 1) = x - 1 := by
       have h1 := HA.out
       have h2 := HL.out
       unfold wrap64
       omega
      have PP : Aside0 (0 ≤ wrap64 (x - 1)) := ⟨by omega⟩
      have QQ : Aside0 (wrap64 (x - 1) < (l0.length : Int)) := ⟨by have := C3.out; omega⟩
      have HCm := Aside0.mk (impl_LotsOk.cmp_ (rd_T37 l0 (wrap64 (x - 1))) (rd_T37 l0 x))
      have HS2 : Aside0 (impl_LotsOk.chk l0 ((l0.length - (x + 1)).toNat + 1) x.toNat = if 0 ≤ impl_LotsOk.cmp (rd_T37 l0 (wrap64 (x - 1))) (rd_T37 l0 x) then false else impl_LotsOk.chk l0 (l0.length - (x + 1)).toNat (x + 1).toNat) := ⟨by
       have h1 := HSt.out
       rw [hfm, if_pos rfl, if_pos c10, ← hw1] at h1
       exact h1⟩
      clear HSt hfm c10 hw1
      generalize impl_LotsOk.cmp (rd_T37 l0 (wrap64 (x - 1))) (rd_T37 l0 x) = cc at HCm HS2
      by_cases c11 : cc ≥ 0
      ·
       have c11b0 : decide (0 ≤ cc) = true := decide_eq_true c11
       have hq : q0 = false := by
        have h2 := HS2.out
        rw [if_pos c11] at h2
        exact HKx.out.symm.trans h2
       obtain rfl : r = false := by
        have h1 := HQ.out
        rw [hq] at h1
        simpa using h1
       clear HQ HS2 hq c11
       obtain ⟨ad2, e2, hx2_0, hx2_1, hx2_2, hx2_3, hx2_4⟩ := at_T37 HR1.out (wrap64 (x - 1)) PP.out QQ.out
       have hw_4 := hx2_4
       have hw_3 := hx2_3
       have hw_2 := hx2_2
       have hw_1 := hx2_1
       have hw_0 := hx2_0
       obtain rfl : ad = ad2 := (by injection e2)
       replace hx2_0 := (HB.out.cell (World.block_lt_of_cell? w1 _ hx2_0)).trans hx2_0
       replace hx2_1 := (HB.out.cell (World.block_lt_of_cell? w1 _ hx2_1)).trans hx2_1
       replace hx2_2 := (HB.out.cell (World.block_lt_of_cell? w1 _ hx2_2)).trans hx2_2
       replace hx2_3 := (HB.out.cell (World.block_lt_of_cell? w1 _ hx2_3)).trans hx2_3
       replace hx2_4 := (HB.out.cell (World.block_lt_of_cell? w1 _ hx2_4)).trans hx2_4
       have p2 := eq_true PP.out
       have q2 := eq_true QQ.out
       refine start_ (n := 17) (S := fun w' => w'.cell? ⟨gb, 0, none⟩ = some (.int .i64 ((rd_T37 l0 x).f0)) ∧ w'.cell? ⟨gb, 1, none⟩ = some (.int .i64 ((rd_T37 l0 x).f1)) ∧ w'.cell? ⟨gb, 2, none⟩ = some (.int .i64 ((rd_T37 l0 x).f2)) ∧ w'.cell? ⟨gb, 3, none⟩ = some (.int .i64 ((rd_T37 l0 x).f3)) ∧ w'.cell? ⟨gb, 4, none⟩ = some (.int .i64 ((rd_T37 l0 x).f4)) ∧ w'.cell? ⟨w.heap.size, 0, none⟩ = some (.slice (some ad) l0.length c0) ∧ w'.cell? (ad.add ((wrap64 (x - 1)).toNat * 5)) = some (.int .i64 ((rd_T37 l0 (wrap64 (x - 1))).f0)) ∧ w'.cell? ⟨(ad.add ((wrap64 (x - 1)).toNat * 5)).block, (ad.add ((wrap64 (x - 1)).toNat * 5)).off + 1, none⟩ = some (.int .i64 ((rd_T37 l0 (wrap64 (x - 1))).f1)) ∧ w'.cell? ⟨(ad.add ((wrap64 (x - 1)).toNat * 5)).block, (ad.add ((wrap64 (x - 1)).toNat * 5)).off + 2, none⟩ = some (.int .i64 ((rd_T37 l0 (wrap64 (x - 1))).f2)) ∧ w'.cell? ⟨(ad.add ((wrap64 (x - 1)).toNat * 5)).block, (ad.add ((wrap64 (x - 1)).toNat * 5)).off + 3, none⟩ = some (.int .i64 ((rd_T37 l0 (wrap64 (x - 1))).f3)) ∧ w'.cell? ⟨(ad.add ((wrap64 (x - 1)).toNat * 5)).block, (ad.add ((wrap64 (x - 1)).toNat * 5)).off + 4, none⟩ = some (.int .i64 ((rd_T37 l0 (wrap64 (x - 1))).f4))) (ds := []) (ba_ 17 0) kr_ rfl rfl ⟨(blk_cell BK.out 0).trans rfl, (blk_cell BK.out 1).trans rfl, (blk_cell BK.out 2).trans rfl, (blk_cell BK.out 3).trans rfl, (blk_cell BK.out 4).trans rfl, ((HB.out.cell (World.block_lt_of_cell? w1 _ HX.out)).trans HX.out), ((HB.out.cell (World.block_lt_of_cell? w1 _ hw_0)).trans hw_0), ((HB.out.cell (World.block_lt_of_cell? w1 _ hw_1)).trans hw_1), ((HB.out.cell (World.block_lt_of_cell? w1 _ hw_2)).trans hw_2), ((HB.out.cell (World.block_lt_of_cell? w1 _ hw_3)).trans hw_3), ((HB.out.cell (World.block_lt_of_cell? w1 _ hw_4)).trans hw_4)⟩ (fun hHeld => ?_); refine with_tabW impl_LotsOk.tab4 impl_LotsOk.bits4 (fun HT_ HW_ => ?_)
       refine ta_ 0 12 HT_.out HW_.out hHeld (ba_ 17 1) ?_
       refine one_ (i := 1) (N := some 13) (ba_ 17 3) rfl rfl (one_of HT_.out kr_) (by decide) (fun K hK => ?_)
       refine goes_ Try.func42 kr_ rfl #[.agg #[.int .i64 ((rd_T37 l0 x).f0), .int .i64 ((rd_T37 l0 x).f1), .int .i64 ((rd_T37 l0 x).f2), .int .i64 ((rd_T37 l0 x).f3), .int .i64 ((rd_T37 l0 x).f4)]] (by rfl) rfl rfl (by (try simp only [List.map_toArray, List.map_cons, List.map_nil]); first | done | rfl | (simp only [i64_w]; rfl)) ?_
       with_reducible refine (impl_lotForm.calls _ _ _ _ _ true _ HFm.out).mono ?_
       rintro e w7 ⟨rfl, hb⟩
       refine ⟨_, rfl, ?_⟩
       have n0_ := Aside0.mk (blk_below (g := gb) (o := .cells #[.int .i64 ((rd_T37 l0 x).f0), .int .i64 ((rd_T37 l0 x).f1), .int .i64 ((rd_T37 l0 x).f2), .int .i64 ((rd_T37 l0 x).f3), .int .i64 ((rd_T37 l0 x).f4)] 37 (0, 0)) (pb_ BK.out) hb)
       have n1_ := Aside0.mk (below_step (by repeat (first | (with_reducible first | exact HB.out | apply below_alloc | apply pw_below_drewN | apply below_drew1 | refine below_set ?_ GE.out) | exact HB.out)) hb)
       clear BK
       clear HB
       have BK := n0_
       have HB := n1_
       clear n0_ n1_ hb
       refine hK.out _ _ ⟨(blk_cell BK.out 0).trans rfl, (blk_cell BK.out 1).trans rfl, (blk_cell BK.out 2).trans rfl, (blk_cell BK.out 3).trans rfl, (blk_cell BK.out 4).trans rfl, ((HB.out.cell (World.block_lt_of_cell? w1 _ HX.out)).trans HX.out), ((HB.out.cell (World.block_lt_of_cell? w1 _ hw_0)).trans hw_0), ((HB.out.cell (World.block_lt_of_cell? w1 _ hw_1)).trans hw_1), ((HB.out.cell (World.block_lt_of_cell? w1 _ hw_2)).trans hw_2), ((HB.out.cell (World.block_lt_of_cell? w1 _ hw_3)).trans hw_3), ((HB.out.cell (World.block_lt_of_cell? w1 _ hw_4)).trans hw_4)⟩ (fun hHeld => ?_)
       clear hK K
       refine norm_ (a' := ?_) ?_ ?_
       rotate_left
       ·
        show Act.put _ (some 13) _ = _
        exact sp_
       refine pu_ 2 14 HT_.out (ba_ 17 7) ?_
       refine pu_ 3 15 HT_.out (ba_ 17 15) ?_
       refine pu_ 4 16 HT_.out (ba_ 17 31) ?_
       refine pu_ 5 17 HT_.out (ba_ 17 63) ?_
       refine pu_ 6 18 HT_.out (ba_ 17 127) ?_
       refine ta_ 7 19 HT_.out HW_.out hHeld (ba_ 17 255) ?_
       refine pu_ 8 20 HT_.out (ba_ 17 511) ?_
       refine pu_ 9 21 HT_.out (ba_ 17 1023) ?_
       refine pu_ 10 22 HT_.out (ba_ 17 2047) ?_
       refine ta_ 11 23 HT_.out HW_.out hHeld (ba_ 17 4095) ?_
       refine ta_ 12 24 HT_.out HW_.out hHeld (ba_ 17 8191) ?_
       refine one_ (i := 13) (N := some 25) (ba_ 17 16383) rfl rfl (one_of HT_.out kr_) (by decide) (fun K hK => ?_)
       refine goes_ Try.func43 kr_ rfl #[.agg #[.int .i64 ((rd_T37 l0 (wrap64 (x - 1))).f0), .int .i64 ((rd_T37 l0 (wrap64 (x - 1))).f1), .int .i64 ((rd_T37 l0 (wrap64 (x - 1))).f2), .int .i64 ((rd_T37 l0 (wrap64 (x - 1))).f3), .int .i64 ((rd_T37 l0 (wrap64 (x - 1))).f4)], .agg #[.int .i64 ((rd_T37 l0 x).f0), .int .i64 ((rd_T37 l0 x).f1), .int .i64 ((rd_T37 l0 x).f2), .int .i64 ((rd_T37 l0 x).f3), .int .i64 ((rd_T37 l0 x).f4)]] (by rfl) rfl rfl (by (try simp only [List.map_toArray, List.map_cons, List.map_nil]); first | done | rfl | (simp only [i64_w]; rfl)) ?_
       with_reducible refine (impl_lotBefore.calls 1 _ _ _ _ _ _ _ _ _ _ cc _ HCm.out).mono ?_
       rintro e w8 ⟨rfl, hb⟩
       refine ⟨_, rfl, ?_⟩
       have n0_ := Aside0.mk (blk_below (g := gb) (o := .cells #[.int .i64 ((rd_T37 l0 x).f0), .int .i64 ((rd_T37 l0 x).f1), .int .i64 ((rd_T37 l0 x).f2), .int .i64 ((rd_T37 l0 x).f3), .int .i64 ((rd_T37 l0 x).f4)] 37 (0, 0)) (pb_ BK.out) hb)
       have n1_ := Aside0.mk (below_step (by repeat (first | (with_reducible first | exact HB.out | apply below_alloc | apply pw_below_drewN | apply below_drew1 | refine below_set ?_ GE.out) | exact HB.out)) hb)
       clear BK
       clear HB
       have BK := n0_
       have HB := n1_
       clear n0_ n1_ hb
       refine hK.out _ _ ⟨(blk_cell BK.out 0).trans rfl, (blk_cell BK.out 1).trans rfl, (blk_cell BK.out 2).trans rfl, (blk_cell BK.out 3).trans rfl, (blk_cell BK.out 4).trans rfl, ((HB.out.cell (World.block_lt_of_cell? w1 _ HX.out)).trans HX.out), ((HB.out.cell (World.block_lt_of_cell? w1 _ hw_0)).trans hw_0), ((HB.out.cell (World.block_lt_of_cell? w1 _ hw_1)).trans hw_1), ((HB.out.cell (World.block_lt_of_cell? w1 _ hw_2)).trans hw_2), ((HB.out.cell (World.block_lt_of_cell? w1 _ hw_3)).trans hw_3), ((HB.out.cell (World.block_lt_of_cell? w1 _ hw_4)).trans hw_4)⟩ (fun hHeld => ?_)
       clear hK K
       refine norm_ (a' := ?_) ?_ ?_
       rotate_left
       ·
        show Act.put _ (some 25) _ = _
        exact sp_
       refine pu_ 14 26 HT_.out (ba_ 17 32767) ?_
       refine pu_ 15 27 HT_.out (ba_ 17 65535) ?_
       refine pu_ 16 28 HT_.out (ba_ 17 131071) ?_
       refine done_ (done_of HT_.out kr_) ?_
       go_wp2
       go_ret
       exact ⟨by first | rfl | (simp; done) | (simp [*]; done), below_step HW.out (by repeat (first | (with_reducible first | exact HB.out | apply below_alloc | apply pw_below_drewN | apply below_drew1 | refine below_set ?_ GE.out) | exact HB.out))⟩
      ·
       have c11b0 : decide (0 ≤ cc) = false := decide_eq_false c11
       have NX : Aside0 (impl_LotsOk.chk l0 (l0.length - (x + 1)).toNat (x + 1).toNat = q0) := ⟨by
        have h2 := HS2.out
        rw [if_neg c11] at h2
        exact h2.symm.trans HKx.out⟩
       clear HS2 c11
       obtain ⟨ad2, e2, hx2_0, hx2_1, hx2_2, hx2_3, hx2_4⟩ := at_T37 HR1.out (wrap64 (x - 1)) PP.out QQ.out
       have hw_4 := hx2_4
       have hw_3 := hx2_3
       have hw_2 := hx2_2
       have hw_1 := hx2_1
       have hw_0 := hx2_0
       obtain rfl : ad = ad2 := (by injection e2)
       replace hx2_0 := (HB.out.cell (World.block_lt_of_cell? w1 _ hx2_0)).trans hx2_0
       replace hx2_1 := (HB.out.cell (World.block_lt_of_cell? w1 _ hx2_1)).trans hx2_1
       replace hx2_2 := (HB.out.cell (World.block_lt_of_cell? w1 _ hx2_2)).trans hx2_2
       replace hx2_3 := (HB.out.cell (World.block_lt_of_cell? w1 _ hx2_3)).trans hx2_3
       replace hx2_4 := (HB.out.cell (World.block_lt_of_cell? w1 _ hx2_4)).trans hx2_4
       have p2 := eq_true PP.out
       have q2 := eq_true QQ.out
       refine start_ (n := 17) (S := fun w' => w'.cell? ⟨gb, 0, none⟩ = some (.int .i64 ((rd_T37 l0 x).f0)) ∧ w'.cell? ⟨gb, 1, none⟩ = some (.int .i64 ((rd_T37 l0 x).f1)) ∧ w'.cell? ⟨gb, 2, none⟩ = some (.int .i64 ((rd_T37 l0 x).f2)) ∧ w'.cell? ⟨gb, 3, none⟩ = some (.int .i64 ((rd_T37 l0 x).f3)) ∧ w'.cell? ⟨gb, 4, none⟩ = some (.int .i64 ((rd_T37 l0 x).f4)) ∧ w'.cell? ⟨w.heap.size, 0, none⟩ = some (.slice (some ad) l0.length c0) ∧ w'.cell? (ad.add ((wrap64 (x - 1)).toNat * 5)) = some (.int .i64 ((rd_T37 l0 (wrap64 (x - 1))).f0)) ∧ w'.cell? ⟨(ad.add ((wrap64 (x - 1)).toNat * 5)).block, (ad.add ((wrap64 (x - 1)).toNat * 5)).off + 1, none⟩ = some (.int .i64 ((rd_T37 l0 (wrap64 (x - 1))).f1)) ∧ w'.cell? ⟨(ad.add ((wrap64 (x - 1)).toNat * 5)).block, (ad.add ((wrap64 (x - 1)).toNat * 5)).off + 2, none⟩ = some (.int .i64 ((rd_T37 l0 (wrap64 (x - 1))).f2)) ∧ w'.cell? ⟨(ad.add ((wrap64 (x - 1)).toNat * 5)).block, (ad.add ((wrap64 (x - 1)).toNat * 5)).off + 3, none⟩ = some (.int .i64 ((rd_T37 l0 (wrap64 (x - 1))).f3)) ∧ w'.cell? ⟨(ad.add ((wrap64 (x - 1)).toNat * 5)).block, (ad.add ((wrap64 (x - 1)).toNat * 5)).off + 4, none⟩ = some (.int .i64 ((rd_T37 l0 (wrap64 (x - 1))).f4))) (ds := []) (ba_ 17 0) kr_ rfl rfl ⟨(blk_cell BK.out 0).trans rfl, (blk_cell BK.out 1).trans rfl, (blk_cell BK.out 2).trans rfl, (blk_cell BK.out 3).trans rfl, (blk_cell BK.out 4).trans rfl, ((HB.out.cell (World.block_lt_of_cell? w1 _ HX.out)).trans HX.out), ((HB.out.cell (World.block_lt_of_cell? w1 _ hw_0)).trans hw_0), ((HB.out.cell (World.block_lt_of_cell? w1 _ hw_1)).trans hw_1), ((HB.out.cell (World.block_lt_of_cell? w1 _ hw_2)).trans hw_2), ((HB.out.cell (World.block_lt_of_cell? w1 _ hw_3)).trans hw_3), ((HB.out.cell (World.block_lt_of_cell? w1 _ hw_4)).trans hw_4)⟩ (fun hHeld => ?_); refine with_tabW impl_LotsOk.tab4 impl_LotsOk.bits4 (fun HT_ HW_ => ?_)
       refine ta_ 0 12 HT_.out HW_.out hHeld (ba_ 17 1) ?_
       refine one_ (i := 1) (N := some 13) (ba_ 17 3) rfl rfl (one_of HT_.out kr_) (by decide) (fun K hK => ?_)
       refine goes_ Try.func42 kr_ rfl #[.agg #[.int .i64 ((rd_T37 l0 x).f0), .int .i64 ((rd_T37 l0 x).f1), .int .i64 ((rd_T37 l0 x).f2), .int .i64 ((rd_T37 l0 x).f3), .int .i64 ((rd_T37 l0 x).f4)]] (by rfl) rfl rfl (by (try simp only [List.map_toArray, List.map_cons, List.map_nil]); first | done | rfl | (simp only [i64_w]; rfl)) ?_
       with_reducible refine (impl_lotForm.calls _ _ _ _ _ true _ HFm.out).mono ?_
       rintro e w7 ⟨rfl, hb⟩
       refine ⟨_, rfl, ?_⟩
       have n0_ := Aside0.mk (blk_below (g := gb) (o := .cells #[.int .i64 ((rd_T37 l0 x).f0), .int .i64 ((rd_T37 l0 x).f1), .int .i64 ((rd_T37 l0 x).f2), .int .i64 ((rd_T37 l0 x).f3), .int .i64 ((rd_T37 l0 x).f4)] 37 (0, 0)) (pb_ BK.out) hb)
       have n1_ := Aside0.mk (below_step (by repeat (first | (with_reducible first | exact HB.out | apply below_alloc | apply pw_below_drewN | apply below_drew1 | refine below_set ?_ GE.out) | exact HB.out)) hb)
       clear BK
       clear HB
       have BK := n0_
       have HB := n1_
       clear n0_ n1_ hb
       refine hK.out _ _ ⟨(blk_cell BK.out 0).trans rfl, (blk_cell BK.out 1).trans rfl, (blk_cell BK.out 2).trans rfl, (blk_cell BK.out 3).trans rfl, (blk_cell BK.out 4).trans rfl, ((HB.out.cell (World.block_lt_of_cell? w1 _ HX.out)).trans HX.out), ((HB.out.cell (World.block_lt_of_cell? w1 _ hw_0)).trans hw_0), ((HB.out.cell (World.block_lt_of_cell? w1 _ hw_1)).trans hw_1), ((HB.out.cell (World.block_lt_of_cell? w1 _ hw_2)).trans hw_2), ((HB.out.cell (World.block_lt_of_cell? w1 _ hw_3)).trans hw_3), ((HB.out.cell (World.block_lt_of_cell? w1 _ hw_4)).trans hw_4)⟩ (fun hHeld => ?_)
       clear hK K
       refine norm_ (a' := ?_) ?_ ?_
       rotate_left
       ·
        show Act.put _ (some 13) _ = _
        exact sp_
       refine pu_ 2 14 HT_.out (ba_ 17 7) ?_
       refine pu_ 3 15 HT_.out (ba_ 17 15) ?_
       refine pu_ 4 16 HT_.out (ba_ 17 31) ?_
       refine pu_ 5 17 HT_.out (ba_ 17 63) ?_
       refine pu_ 6 18 HT_.out (ba_ 17 127) ?_
       refine ta_ 7 19 HT_.out HW_.out hHeld (ba_ 17 255) ?_
       refine pu_ 8 20 HT_.out (ba_ 17 511) ?_
       refine pu_ 9 21 HT_.out (ba_ 17 1023) ?_
       refine pu_ 10 22 HT_.out (ba_ 17 2047) ?_
       refine ta_ 11 23 HT_.out HW_.out hHeld (ba_ 17 4095) ?_
       refine ta_ 12 24 HT_.out HW_.out hHeld (ba_ 17 8191) ?_
       refine one_ (i := 13) (N := some 25) (ba_ 17 16383) rfl rfl (one_of HT_.out kr_) (by decide) (fun K hK => ?_)
       refine goes_ Try.func43 kr_ rfl #[.agg #[.int .i64 ((rd_T37 l0 (wrap64 (x - 1))).f0), .int .i64 ((rd_T37 l0 (wrap64 (x - 1))).f1), .int .i64 ((rd_T37 l0 (wrap64 (x - 1))).f2), .int .i64 ((rd_T37 l0 (wrap64 (x - 1))).f3), .int .i64 ((rd_T37 l0 (wrap64 (x - 1))).f4)], .agg #[.int .i64 ((rd_T37 l0 x).f0), .int .i64 ((rd_T37 l0 x).f1), .int .i64 ((rd_T37 l0 x).f2), .int .i64 ((rd_T37 l0 x).f3), .int .i64 ((rd_T37 l0 x).f4)]] (by rfl) rfl rfl (by (try simp only [List.map_toArray, List.map_cons, List.map_nil]); first | done | rfl | (simp only [i64_w]; rfl)) ?_
       with_reducible refine (impl_lotBefore.calls 1 _ _ _ _ _ _ _ _ _ _ cc _ HCm.out).mono ?_
       rintro e w8 ⟨rfl, hb⟩
       refine ⟨_, rfl, ?_⟩
       have n0_ := Aside0.mk (blk_below (g := gb) (o := .cells #[.int .i64 ((rd_T37 l0 x).f0), .int .i64 ((rd_T37 l0 x).f1), .int .i64 ((rd_T37 l0 x).f2), .int .i64 ((rd_T37 l0 x).f3), .int .i64 ((rd_T37 l0 x).f4)] 37 (0, 0)) (pb_ BK.out) hb)
       have n1_ := Aside0.mk (below_step (by repeat (first | (with_reducible first | exact HB.out | apply below_alloc | apply pw_below_drewN | apply below_drew1 | refine below_set ?_ GE.out) | exact HB.out)) hb)
       clear BK
       clear HB
       have BK := n0_
       have HB := n1_
       clear n0_ n1_ hb
       refine hK.out _ _ ⟨(blk_cell BK.out 0).trans rfl, (blk_cell BK.out 1).trans rfl, (blk_cell BK.out 2).trans rfl, (blk_cell BK.out 3).trans rfl, (blk_cell BK.out 4).trans rfl, ((HB.out.cell (World.block_lt_of_cell? w1 _ HX.out)).trans HX.out), ((HB.out.cell (World.block_lt_of_cell? w1 _ hw_0)).trans hw_0), ((HB.out.cell (World.block_lt_of_cell? w1 _ hw_1)).trans hw_1), ((HB.out.cell (World.block_lt_of_cell? w1 _ hw_2)).trans hw_2), ((HB.out.cell (World.block_lt_of_cell? w1 _ hw_3)).trans hw_3), ((HB.out.cell (World.block_lt_of_cell? w1 _ hw_4)).trans hw_4)⟩ (fun hHeld => ?_)
       clear hK K
       refine norm_ (a' := ?_) ?_ ?_
       rotate_left
       ·
        show Act.put _ (some 25) _ = _
        exact sp_
       refine pu_ 14 26 HT_.out (ba_ 17 32767) ?_
       refine pu_ 15 27 HT_.out (ba_ 17 65535) ?_
       refine pu_ 16 28 HT_.out (ba_ 17 131071) ?_
       refine done_ (done_of HT_.out kr_) ?_
       try go_wp2
       go_roundg (l0.length - (x + 1)).toNat
       case measure => have := HA.out; have := C3.out; omega
       case rel =>
        have h1 := HA.out
        have h2 := C3.out
        refine ⟨wrap64 (x + 1), (by first | rfl | (simp; done) | (simp [*]; done)), ⟨?_⟩, ⟨by repeat (first | (with_reducible first | exact HB.out | apply below_alloc | apply pw_below_drewN | apply below_drew1 | refine below_set ?_ GE.out) | exact HB.out)⟩⟩
        have hw : wrap64 (x + 1) = x + 1 := by
         have := HL.out
         unfold wrap64
         omega
        rw [hw]
        exact ⟨by omega, by omega, rfl, NX.out⟩
     ·
      have c10b0 : decide (0 < x) = false := decide_eq_false c10
      have NX : Aside0 (impl_LotsOk.chk l0 (l0.length - (x + 1)).toNat (x + 1).toNat = q0) := ⟨by
       have h1 := HSt.out
       rw [hfm, if_pos rfl, if_neg c10] at h1
       exact h1.symm.trans HKx.out⟩
      clear HSt hfm c10
      refine start_ (n := 17) (S := fun w' => w'.cell? ⟨gb, 0, none⟩ = some (.int .i64 ((rd_T37 l0 x).f0)) ∧ w'.cell? ⟨gb, 1, none⟩ = some (.int .i64 ((rd_T37 l0 x).f1)) ∧ w'.cell? ⟨gb, 2, none⟩ = some (.int .i64 ((rd_T37 l0 x).f2)) ∧ w'.cell? ⟨gb, 3, none⟩ = some (.int .i64 ((rd_T37 l0 x).f3)) ∧ w'.cell? ⟨gb, 4, none⟩ = some (.int .i64 ((rd_T37 l0 x).f4)) ∧ w'.cell? ⟨w.heap.size, 0, none⟩ = some (.slice (some ad) l0.length c0)) (ds := []) (ba_ 17 0) kr_ rfl rfl ⟨(blk_cell BK.out 0).trans rfl, (blk_cell BK.out 1).trans rfl, (blk_cell BK.out 2).trans rfl, (blk_cell BK.out 3).trans rfl, (blk_cell BK.out 4).trans rfl, ((HB.out.cell (World.block_lt_of_cell? w1 _ HX.out)).trans HX.out)⟩ (fun hHeld => ?_); refine with_tabW impl_LotsOk.tab4 impl_LotsOk.bits4 (fun HT_ HW_ => ?_)
      refine ta_ 0 12 HT_.out HW_.out hHeld (ba_ 17 1) ?_
      refine one_ (i := 1) (N := some 13) (ba_ 17 3) rfl rfl (one_of HT_.out kr_) (by decide) (fun K hK => ?_)
      refine goes_ Try.func42 kr_ rfl #[.agg #[.int .i64 ((rd_T37 l0 x).f0), .int .i64 ((rd_T37 l0 x).f1), .int .i64 ((rd_T37 l0 x).f2), .int .i64 ((rd_T37 l0 x).f3), .int .i64 ((rd_T37 l0 x).f4)]] (by rfl) rfl rfl (by (try simp only [List.map_toArray, List.map_cons, List.map_nil]); first | done | rfl | (simp only [i64_w]; rfl)) ?_
      with_reducible refine (impl_lotForm.calls _ _ _ _ _ true _ HFm.out).mono ?_
      rintro e w7 ⟨rfl, hb⟩
      refine ⟨_, rfl, ?_⟩
      have n0_ := Aside0.mk (blk_below (g := gb) (o := .cells #[.int .i64 ((rd_T37 l0 x).f0), .int .i64 ((rd_T37 l0 x).f1), .int .i64 ((rd_T37 l0 x).f2), .int .i64 ((rd_T37 l0 x).f3), .int .i64 ((rd_T37 l0 x).f4)] 37 (0, 0)) (pb_ BK.out) hb)
      have n1_ := Aside0.mk (below_step (by repeat (first | (with_reducible first | exact HB.out | apply below_alloc | apply pw_below_drewN | apply below_drew1 | refine below_set ?_ GE.out) | exact HB.out)) hb)
      clear BK
      clear HB
      have BK := n0_
      have HB := n1_
      clear n0_ n1_ hb
      refine hK.out _ _ ⟨(blk_cell BK.out 0).trans rfl, (blk_cell BK.out 1).trans rfl, (blk_cell BK.out 2).trans rfl, (blk_cell BK.out 3).trans rfl, (blk_cell BK.out 4).trans rfl, ((HB.out.cell (World.block_lt_of_cell? w1 _ HX.out)).trans HX.out)⟩ (fun hHeld => ?_)
      clear hK K
      refine norm_ (a' := ?_) ?_ ?_
      rotate_left
      ·
       show Act.put _ (some 13) _ = _
       exact sp_
      refine pu_ 2 14 HT_.out (ba_ 17 7) ?_
      refine pu_ 3 15 HT_.out (ba_ 17 15) ?_
      refine pu_ 4 16 HT_.out (ba_ 17 31) ?_
      refine pu_ 5 17 HT_.out (ba_ 17 63) ?_
      refine pu_ 6 18 HT_.out (ba_ 17 127) ?_
      refine sk_ 7 19 HT_.out (ba_ 17 255) ?_
      refine sk_ 8 20 HT_.out (ba_ 17 511) ?_
      refine sk_ 9 21 HT_.out (ba_ 17 1023) ?_
      refine sk_ 10 22 HT_.out (ba_ 17 2047) ?_
      refine sk_ 11 23 HT_.out (ba_ 17 4095) ?_
      refine sk_ 12 24 HT_.out (ba_ 17 8191) ?_
      refine sk_ 13 25 HT_.out (ba_ 17 16383) ?_
      refine sk_ 14 26 HT_.out (ba_ 17 32767) ?_
      refine pu_ 15 27 HT_.out (ba_ 17 65535) ?_
      refine pu_ 16 28 HT_.out (ba_ 17 131071) ?_
      refine done_ (done_of HT_.out kr_) ?_
      try go_wp2
      go_roundg (l0.length - (x + 1)).toNat
      case measure => have := HA.out; have := C3.out; omega
      case rel =>
       have h1 := HA.out
       have h2 := C3.out
       refine ⟨wrap64 (x + 1), (by first | rfl | (simp; done) | (simp [*]; done)), ⟨?_⟩, ⟨by repeat (first | (with_reducible first | exact HB.out | apply below_alloc | apply pw_below_drewN | apply below_drew1 | refine below_set ?_ GE.out) | exact HB.out)⟩⟩
       have hw : wrap64 (x + 1) = x + 1 := by
        have := HL.out
        unfold wrap64
        omega
       rw [hw]
       exact ⟨by omega, by omega, rfl, NX.out⟩
   ·
    have c3b0 : decide (x < (l0.length : Int)) = false := decide_eq_false c3
    have hq : q0 = true := by
     have h1 := HA.out
     have e1 : (l0.length - x).toNat = 0 := by omega
     have h2 := h1.2.2.2
     rw [e1] at h2
     exact h2.symm
    have HQ2 : Aside0 (r = if (l0.length : Int) > 120 then false else !(l0.any (impl_LotsOk.over l0))) := ⟨by
     have h1 := HQ.out
     rw [hq, if_pos rfl] at h1
     exact h1⟩
    clear HQ hq c3
    have hcb := (HB.out.cell (World.block_lt_of_cell? w1 _ HX.out)).trans HX.out
    by_cases c4 : (l0.length : Int) > 120
    ·
     have c4b0 : decide (120 < (l0.length : Int)) = true := decide_eq_true c4
     have c4b1 : decide (120 < l0.length) = true := decide_eq_true (by omega)
     obtain rfl : r = false := by
      have h1 := HQ2.out
      rw [if_pos c4] at h1
      exact h1
     clear c4 HQ2
     go_wp2
     go_ret
     exact ⟨by first | rfl | (simp; done) | (simp [*]; done), below_step HW.out (bb_)⟩
    ·
     have c4b0 : decide (120 < (l0.length : Int)) = false := decide_eq_false c4
     have c4b1 : decide (120 < l0.length) = false := decide_eq_false (by omega)
     obtain rfl : r = !(l0.any (impl_LotsOk.over l0)) := by
      have h1 := HQ2.out
      rw [if_neg c4] at h1
      exact h1
     clear c4 HQ2
     go_wp2_with (first | (go_at_call 44; refine (ContainsFunc_st37.calls A0 c0 l0 45 #[.pointer (some ⟨w.heap.size, 0, none⟩)] (impl_LotsOk.over l0) _ (Kd.C_below HR1.out HB.out) HC0.out (impl_LotsOk.pred ((HB.out.cell (World.block_lt_of_cell? w1 _ HX.out)).trans HX.out) (Kd.C_below HR1.out HB.out) HC0.out HL.out)).mono ?_; rintro e w9 ⟨rfl, hb⟩; have n0_ := Aside0.mk (below_step HB.out hb); clear HB; have HB := n0_; clear n0_ hb))
     go_ret
     exact ⟨by first | rfl | (simp; done) | (simp [*]; done), below_step HW.out (bb_)⟩
 ·
  rw [if_neg hl] at h
  cases h
end Go.Proofs.Ytomanpmffjkkgaa.P
namespace Go.Proofs.Ytomanpmffjkkgaa.P
open Go.RowKit Go.Proofs.YtomanpmffjkkgaaW.PrintWords Go.Proofs.YtomanpmffjkkgaaW.PrintLast Go.Proofs.YtomanpmffjkkgaaW.PrintMore
attribute [local go_sem] max2_int min2_int max_two min_two max_three min_three max_four min_four   -- for this text's walks alone
set_option linter.unusedVariables false
set_option linter.unusedSimpArgs false
mutual
def spec_LotsOk.l0 : Nat → List (S37) → Int → Int → Int → Option (Bool)
 | 0, _, _, _, _ => none
 | k + 1, x0, x3, x4, x5 => if x5 < (x0.length : Int) then (if 0 ≤ x5 then ((spec_l5Right.f ((rd_T37 x0 x5).f0) ((rd_T37 x0 x5).f1) ((rd_T37 x0 x5).f2) ((rd_T37 x0 x5).f3) ((rd_T37 x0 x5).f4)).bind fun t115 => (if t115 = true then (if x5 > 0 then (if 0 ≤ (wrap64 (x5 - 1)) then (if (wrap64 (x5 - 1)) < (x0.length : Int) then ((spec_l5Before.f ((rd_T37 x0 (wrap64 (x5 - 1))).f0) ((rd_T37 x0 (wrap64 (x5 - 1))).f1) ((rd_T37 x0 (wrap64 (x5 - 1))).f2) ((rd_T37 x0 (wrap64 (x5 - 1))).f3) ((rd_T37 x0 (wrap64 (x5 - 1))).f4) ((rd_T37 x0 x5).f0) ((rd_T37 x0 x5).f1) ((rd_T37 x0 x5).f2) ((rd_T37 x0 x5).f3) ((rd_T37 x0 x5).f4)).bind fun t117 => (spec_LotsOk.j1 k x0 x3 x4 x5 (!t117) ((rd_T37 x0 x5).f0) ((rd_T37 x0 x5).f1) ((rd_T37 x0 x5).f2) ((rd_T37 x0 x5).f3) ((rd_T37 x0 x5).f4))) else (none)) else (none)) else (spec_LotsOk.j1 k x0 x3 x4 x5 false ((rd_T37 x0 x5).f0) ((rd_T37 x0 x5).f1) ((rd_T37 x0 x5).f2) ((rd_T37 x0 x5).f3) ((rd_T37 x0 x5).f4))) else (spec_LotsOk.j1 k x0 x3 x4 x5 true ((rd_T37 x0 x5).f0) ((rd_T37 x0 x5).f1) ((rd_T37 x0 x5).f2) ((rd_T37 x0 x5).f3) ((rd_T37 x0 x5).f4)))) else (none)) else (some true)
def spec_LotsOk.j1 : Nat → List (S37) → Int → Int → Int → Bool → Int → Int → Int → Int → Int → Option (Bool)
 | 0, _, _, _, _, _, _, _, _, _, _ => none
 | k + 1, x0, x3, x4, x5, x36, x115000, x115001, x115002, x115003, x115004 => if x36 = true then (some false) else (if x5 = 0 then (spec_LotsOk.j2 k x0 x3 x4 x5 true x115000 x115001 x115002 x115003 x115004) else (if 0 ≤ (wrap64 (x5 - 1)) then (if (wrap64 (x5 - 1)) < (x0.length : Int) then (if x115000 = ((rd_T37 x0 (wrap64 (x5 - 1))).f0) then (spec_LotsOk.j2 k x0 x3 x4 x5 (x115001 != ((rd_T37 x0 (wrap64 (x5 - 1))).f1)) x115000 x115001 x115002 x115003 x115004) else (spec_LotsOk.j2 k x0 x3 x4 x5 true x115000 x115001 x115002 x115003 x115004)) else (none)) else (none)))
def spec_LotsOk.j2 : Nat → List (S37) → Int → Int → Int → Bool → Int → Int → Int → Int → Int → Option (Bool)
 | 0, _, _, _, _, _, _, _, _, _, _ => none
 | k + 1, x0, x3, x4, x5, x60, x115000, x115001, x115002, x115003, x115004 => if x60 = true then (spec_LotsOk.j3 k x0 0 0 x5 x115000 x115001 x115002 x115003 x115004) else (spec_LotsOk.j3 k x0 x3 x4 x5 x115000 x115001 x115002 x115003 x115004)
def spec_LotsOk.j3 : Nat → List (S37) → Int → Int → Int → Int → Int → Int → Int → Int → Option (Bool)
 | 0, _, _, _, _, _, _, _, _, _ => none
 | k + 1, x0, x3, x4, x5, x115000, x115001, x115002, x115003, x115004 => (spec_AmountOk.f (wrap64 (x3 + x115003))).bind fun t120 => (if t120 = true then ((spec_AmountOk.f (wrap64 (x4 + x115004))).bind fun t121 => (if t121 = true then (spec_LotsOk.l0 k x0 (wrap64 (x3 + x115003)) (wrap64 (x4 + x115004)) (wrap64 (x5 + 1))) else (some false))) else (some false))
end
def spec_LotsOk.f (k : Nat) (l0 : List (S37)) : Option (Bool) := if (l0.length : Int) > 120 then (some false) else (spec_LotsOk.l0 k l0 0 0 0)
def spec_LotsOk.T8 : Bool × List (List Nat × List Nat) := (true, [([], []), ([0], [0]), ([1], [1]), ([2, 1], [2]), ([3], [3]), ([4, 3], [3, 4]), ([5, 3, 3], [3, 5]), ([6], [6]), ([6], [6]), ([8, 6], [6, 8]), ([7, 9, 6], [6, 7, 9]), ([10, 6], [6, 10]), ([6], [6]), ([11, 12, 6, 6], [6, 11, 12]), ([13, 6], [6, 13]), ([6, 14, 3], [3, 6, 14]), ([3, 15], [3, 15])])
def spec_LotsOk.B8 : List Nat := [0, 1, 3, 7, 15, 31, 63, 127, 127, 383, 1023, 2047, 127, 8191, 16383, 32767, 65535]
theorem spec_LotsOk.tab8 : rtab .any (opsOf Try.f15 8) = spec_LotsOk.T8 := by kernel_rfl
theorem spec_LotsOk.bits8 : waitsOk spec_LotsOk.T8.2 spec_LotsOk.B8 = true := by kernel_rfl
def spec_LotsOk.T10 : Bool × List (List Nat × List Nat) := (true, [([], []), ([0], [0]), ([1], [1]), ([2], [2]), ([3, 2], [2, 3]), ([2], [2]), ([2], [2]), ([6, 2], [2, 6]), ([5, 7, 2], [2, 5, 7]), ([8, 2], [2, 8]), ([9, 2], [2, 9]), ([4, 10, 2], [2, 4, 10]), ([2, 11], [2, 11]), ([12, 2], [12]), ([13], [13]), ([14, 13], [13, 14]), ([13], [13]), ([13], [13]), ([17, 13], [13, 17]), ([16, 18, 13], [13, 16, 18]), ([19, 13], [13, 19]), ([20, 13], [13, 20]), ([15, 21, 13], [13, 15, 21]), ([13, 22], [13, 22])])
def spec_LotsOk.B10 : List Nat := [0, 1, 3, 7, 15, 7, 7, 71, 231, 487, 999, 2047, 4095, 8191, 16383, 32767, 16383, 16383, 147455, 475135, 999423, 2047999, 4194303, 8388607]
theorem spec_LotsOk.tab10 : rtab .any (opsOf Try.f15 10) = spec_LotsOk.T10 := by kernel_rfl
theorem spec_LotsOk.bits10 : waitsOk spec_LotsOk.T10.2 spec_LotsOk.B10 = true := by kernel_rfl
set_option maxHeartbeats 8000000 in
set_option maxRecDepth 100000 in
theorem spec_LotsOk.calls (k : Nat) (A0 : Option Addr) (c0 : Nat) (l0 : List (S37)) (r : Bool) (w : World) (hr0 : Kd.C k37 w A0 l0.length l0) (hc0 : l0.length ≤ c0) (h : spec_LotsOk.f k l0 = some r) :
 Calls Try.prog 15 #[.slice A0 l0.length c0] w fun e w' => e = .returned (.bool r) ∧ Below w.heap.size w w' := by
 have hu37 := Try.underlying37
 have HR0 := Aside0.mk hr0
 have HC0 := Aside0.mk hc0
 clear hr0 hc0
 have HB := Aside0.mk (Below.refl w.heap.size w)
 have H : (if (l0.length : Int) > 120 then (some false) else (spec_LotsOk.l0 k l0 0 0 0)) = some r := h
 clear h
 by_cases c2 : (l0.length : Int) > 120
 ·
  rw [if_pos c2] at H
  have c2b0 : decide (120 < (l0.length : Int)) = true := decide_eq_true c2
  have c2b1 : decide (120 < l0.length) = true := decide_eq_true (by omega)
  clear c2
  obtain rfl := Option.some.inj H
  go_enter Try.func15, Try.ntmps15
  go_wp2
  go_ret
  exact ⟨er_, bb_⟩
 ·
  rw [if_neg c2] at H
  have c2b0 : decide (120 < (l0.length : Int)) = false := decide_eq_false c2
  have c2b1 : decide (120 < l0.length) = false := decide_eq_false (by omega)
  clear c2
  have H' := Aside0.mk H
  clear H
  go_enter Try.func15, Try.ntmps15
  go_wp2
  go_loopg [3, 4, 5] k (fun kq v3 v4 v5 w' => ∃ (x3_1 : Int) (x4_1 : Int) (x5_1 : Int), v3 = .int .i64 x3_1 ∧ v4 = .int .i64 x4_1 ∧ v5 = .int .i64 x5_1 ∧ Aside0 (spec_LotsOk.l0 kq l0 x3_1 x4_1 x5_1 = some r) ∧ Aside0 (kq ≤ k) ∧ Aside0 (Below w.heap.size w w'))
  case atStart => exact ⟨(0), (0), (0), (by first | rfl | (simp; done) | (simp [*]; done)), (by first | rfl | (simp; done) | (simp [*]; done)), (by first | rfl | (simp; done) | (simp [*]; done)), H', ⟨Nat.le_refl _⟩, ⟨bb_⟩⟩
  case round =>
   clear H'
   try clear c1
   try clear c2b0
   try clear c2b1
   try clear p2
   obtain ⟨x3_1, x4_1, x5_1, rfl, rfl, rfl, HA, HK1, HB⟩ := hrel
   cases gk with
   | zero => exact absurd HA.out (by simp [spec_LotsOk.l0])
   | succ k1 =>
    have H := HA.out
    clear HA
    simp only [spec_LotsOk.l0] at H
    by_cases c3 : x5_1 < (l0.length : Int)
    ·
     rw [if_pos c3] at H
     have c3b0 : decide (x5_1 < (l0.length : Int)) = true := decide_eq_true c3
     clear c3
     by_cases c4 : 0 ≤ x5_1
     ·
      rw [if_pos c4] at H
      have c4b0 : decide (0 ≤ x5_1) = true := decide_eq_true c4
      clear c4
      have HC5 := Aside0.mk H
      clear H
      have p113 : 0 ≤ (x5_1 : Int) := od_
      have q113 : x5_1 < (l0.length : Int) := od_
      obtain ⟨ad113, e113, hx113_0, hx113_1, hx113_2, hx113_3, hx113_4⟩ := at_T37 HR0.out x5_1 p113 q113
      cases e113
      replace hx113_0 := cl_ HB.out hx113_0
      replace hx113_1 := cl_ HB.out hx113_1
      replace hx113_2 := cl_ HB.out hx113_2
      replace hx113_3 := cl_ HB.out hx113_3
      replace hx113_4 := cl_ HB.out hx113_4
      replace p113 := eq_true p113
      replace q113 := eq_true q113
      go_upto_region 8 with (first | ((with_reducible refine gate_dst (N := 6) rfl ?_); refine be_ 6 (cs := #[.int .i64 0, .int .i64 0, .int .i64 0, .int .i64 0, .int .i64 0]) (t := 37) ?_; intro gb114 hg w6 hbox hb; have n0_ := Aside0.mk (below_step (bb_) hb); have n1_ := Aside0.mk (hbox); have n2_ := Aside0.mk ((gs_ hg : w.heap.size ≤ gb114)); have n3_ := Aside0.mk ((gs_ hg : w.heap.size ≤ gb114)); clear HB; have HB := n0_; have BK114 := n1_; have GW114 := n2_; have GE114 := n3_; clear n0_ n1_ n2_ n3_; clear hb hbox hg; obtain ⟨hcz7_0, hcz7_1, hcz7_2, hcz7_3, hcz7_4, hfz7_0, hfz7_1, hfz7_2, hfz7_3, hfz7_4⟩ := ce5_ BK114.out))
      (try simp only [Act.put, List.setIfInBounds_toArray, List.set_cons_zero, List.set_cons_succ])
      go_cut [36] (fun v36 wc => ∃ (kq : Nat) (x36_4 : Bool), v36 = .bool x36_4 ∧ Aside0 (spec_LotsOk.j1 kq l0 x3_1 x4_1 x5_1 x36_4 ((rd_T37 l0 x5_1).f0) ((rd_T37 l0 x5_1).f1) ((rd_T37 l0 x5_1).f2) ((rd_T37 l0 x5_1).f3) ((rd_T37 l0 x5_1).f4) = some r) ∧ Aside0 (kq ≤ k1) ∧ Aside0 (wc.heap[gb114]? = some (.cells #[.int .i64 ((rd_T37 l0 x5_1).f0), .int .i64 ((rd_T37 l0 x5_1).f1), .int .i64 ((rd_T37 l0 x5_1).f2), .int .i64 ((rd_T37 l0 x5_1).f3), .int .i64 ((rd_T37 l0 x5_1).f4)] 37 (0, 0))) ∧ Aside0 (Below w.heap.size w wc))
      case first =>
       have H := HC5.out
       clear HC5
       replace H := Option.bind_eq_some_iff.mp H
       obtain ⟨t115, A80, H⟩ := H
       have A8 := Aside0.mk A80
       clear A80
       by_cases c9 : t115 = true
       ·
        subst c9
        have H1 := Eq.trans (if_pos rfl).symm H
        clear H
        have H := H1
        clear H1
        by_cases c10 : x5_1 > 0
        ·
         rw [if_pos c10] at H
         have c10b0 : decide (0 < x5_1) = true := decide_eq_true c10
         clear c10
         (first | rw [c10b0] | (simp only [i64_w, i32_w]; rw [c10b0]) | skip)
         obtain ⟨ji11, hji11⟩ : ∃ j_ : Int, (wrap64 (x5_1 - 1)) = j_ := ⟨_, rfl⟩
         replace H : (if 0 ≤ (ji11) then (if (ji11) < (l0.length : Int) then ((spec_l5Before.f ((rd_T37 l0 (ji11)).f0) ((rd_T37 l0 (ji11)).f1) ((rd_T37 l0 (ji11)).f2) ((rd_T37 l0 (ji11)).f3) ((rd_T37 l0 (ji11)).f4) ((rd_T37 l0 x5_1).f0) ((rd_T37 l0 x5_1).f1) ((rd_T37 l0 x5_1).f2) ((rd_T37 l0 x5_1).f3) ((rd_T37 l0 x5_1).f4)).bind fun t117 => (spec_LotsOk.j1 k1 l0 x3_1 x4_1 x5_1 (!t117) ((rd_T37 l0 x5_1).f0) ((rd_T37 l0 x5_1).f1) ((rd_T37 l0 x5_1).f2) ((rd_T37 l0 x5_1).f3) ((rd_T37 l0 x5_1).f4))) else (none)) else (none)) = some r := rj_ hji11 H
         (try rw [hji11] at A8)
         have hji11w : (IntKind.i64.wrap (x5_1 - 1)) = ji11 := (i64_w _).trans hji11
         by_cases c12 : 0 ≤ (ji11)
         ·
          rw [if_pos c12] at H
          have c12b0 : decide (0 ≤ (ji11)) = true := decide_eq_true c12
          clear c12
          by_cases c13 : (ji11) < (l0.length : Int)
          ·
           rw [if_pos c13] at H
           have c13b0 : decide ((ji11) < (l0.length : Int)) = true := decide_eq_true c13
           clear c13
           replace H := Option.bind_eq_some_iff.mp H
           obtain ⟨t117, A140, H⟩ := H
           have A14 := Aside0.mk A140
           clear A140
           have H' := Aside0.mk H
           clear H
           try go_wp2
           have n0_ : Aside0 ((((((w6.setCell ⟨gb114, 0, none⟩ (.int .i64 ((rd_T37 l0 x5_1).f0))).setCell ⟨gb114, 1, none⟩ (.int .i64 ((rd_T37 l0 x5_1).f1))).setCell ⟨gb114, 2, none⟩ (.int .i64 ((rd_T37 l0 x5_1).f2))).setCell ⟨gb114, 3, none⟩ (.int .i64 ((rd_T37 l0 x5_1).f3))).setCell ⟨gb114, 4, none⟩ (.int .i64 ((rd_T37 l0 x5_1).f4))).heap[gb114]? = some (.cells #[.int .i64 ((rd_T37 l0 x5_1).f0), .int .i64 ((rd_T37 l0 x5_1).f1), .int .i64 ((rd_T37 l0 x5_1).f2), .int .i64 ((rd_T37 l0 x5_1).f3), .int .i64 ((rd_T37 l0 x5_1).f4)] 37 (0, 0))) := ⟨by (with_reducible repeat (first | refine blk_drewN ?_ _ | refine blk_drew ?_ | refine blk_alloc ?_ _)); refine blk_put (cs := #[.int .i64 ((rd_T37 l0 x5_1).f0), .int .i64 ((rd_T37 l0 x5_1).f1), .int .i64 ((rd_T37 l0 x5_1).f2), .int .i64 ((rd_T37 l0 x5_1).f3), .int .i64 0]) ?_ 4 _ rfl; (with_reducible repeat (first | refine blk_drewN ?_ _ | refine blk_drew ?_ | refine blk_alloc ?_ _)); refine blk_put (cs := #[.int .i64 ((rd_T37 l0 x5_1).f0), .int .i64 ((rd_T37 l0 x5_1).f1), .int .i64 ((rd_T37 l0 x5_1).f2), .int .i64 0, .int .i64 0]) ?_ 3 _ rfl; (with_reducible repeat (first | refine blk_drewN ?_ _ | refine blk_drew ?_ | refine blk_alloc ?_ _)); refine blk_put (cs := #[.int .i64 ((rd_T37 l0 x5_1).f0), .int .i64 ((rd_T37 l0 x5_1).f1), .int .i64 0, .int .i64 0, .int .i64 0]) ?_ 2 _ rfl; (with_reducible repeat (first | refine blk_drewN ?_ _ | refine blk_drew ?_ | refine blk_alloc ?_ _)); refine blk_put (cs := #[.int .i64 ((rd_T37 l0 x5_1).f0), .int .i64 0, .int .i64 0, .int .i64 0, .int .i64 0]) ?_ 1 _ rfl; (with_reducible repeat (first | refine blk_drewN ?_ _ | refine blk_drew ?_ | refine blk_alloc ?_ _)); refine blk_put (cs := #[.int .i64 0, .int .i64 0, .int .i64 0, .int .i64 0, .int .i64 0]) ?_ 0 _ rfl; (with_reducible repeat (first | refine blk_drewN ?_ _ | refine blk_drew ?_ | refine blk_alloc ?_ _)); exact BK114.out⟩
           have n1_ : Aside0 (Below w.heap.size w (((((w6.setCell ⟨gb114, 0, none⟩ (.int .i64 ((rd_T37 l0 x5_1).f0))).setCell ⟨gb114, 1, none⟩ (.int .i64 ((rd_T37 l0 x5_1).f1))).setCell ⟨gb114, 2, none⟩ (.int .i64 ((rd_T37 l0 x5_1).f2))).setCell ⟨gb114, 3, none⟩ (.int .i64 ((rd_T37 l0 x5_1).f3))).setCell ⟨gb114, 4, none⟩ (.int .i64 ((rd_T37 l0 x5_1).f4)))) := ⟨bg_ GE114.out⟩
           (try clear BK114)
           (try clear HB)
           generalize (((((w6.setCell ⟨gb114, 0, none⟩ (.int .i64 ((rd_T37 l0 x5_1).f0))).setCell ⟨gb114, 1, none⟩ (.int .i64 ((rd_T37 l0 x5_1).f1))).setCell ⟨gb114, 2, none⟩ (.int .i64 ((rd_T37 l0 x5_1).f2))).setCell ⟨gb114, 3, none⟩ (.int .i64 ((rd_T37 l0 x5_1).f3))).setCell ⟨gb114, 4, none⟩ (.int .i64 ((rd_T37 l0 x5_1).f4))) = w15 at n0_ n1_ ⊢
           have BK114 := n0_
           have HB := n1_
           clear n0_ n1_
           have n0_ := Aside0.mk (blk_drew BK114.out)
           have n1_ := Aside0.mk (below_drew1 HB.out)
           clear BK114
           clear HB
           have BK114 := n0_
           have HB := n1_
           clear n0_ n1_
           have p116 : 0 ≤ ((ji11) : Int) := od_
           have q116 : (ji11) < (l0.length : Int) := od_
           obtain ⟨ad116, e116, hx116_0, hx116_1, hx116_2, hx116_3, hx116_4⟩ := at_T37 HR0.out (ji11) p116 q116
           have hw116_4 := hx116_4
           have hw116_3 := hx116_3
           have hw116_2 := hx116_2
           have hw116_1 := hx116_1
           have hw116_0 := hx116_0
           obtain rfl : ad113 = ad116 := (by injection e116)
           replace hx116_0 := cl_ HB.out hx116_0
           replace hx116_1 := cl_ HB.out hx116_1
           replace hx116_2 := cl_ HB.out hx116_2
           replace hx116_3 := cl_ HB.out hx116_3
           replace hx116_4 := cl_ HB.out hx116_4
           replace p116 := eq_true p116
           replace q116 := eq_true q116
           refine start_ (n := 17) (S := fun w' => w'.cell? ⟨gb114, 0, none⟩ = some (.int .i64 ((rd_T37 l0 x5_1).f0)) ∧ w'.cell? ⟨gb114, 1, none⟩ = some (.int .i64 ((rd_T37 l0 x5_1).f1)) ∧ w'.cell? ⟨gb114, 2, none⟩ = some (.int .i64 ((rd_T37 l0 x5_1).f2)) ∧ w'.cell? ⟨gb114, 3, none⟩ = some (.int .i64 ((rd_T37 l0 x5_1).f3)) ∧ w'.cell? ⟨gb114, 4, none⟩ = some (.int .i64 ((rd_T37 l0 x5_1).f4)) ∧ w'.cell? (ad113.add (((ji11)).toNat * 5)) = some (.int .i64 ((rd_T37 l0 (ji11)).f0)) ∧ w'.cell? ⟨(ad113.add (((ji11)).toNat * 5)).block, (ad113.add (((ji11)).toNat * 5)).off + 1, none⟩ = some (.int .i64 ((rd_T37 l0 (ji11)).f1)) ∧ w'.cell? ⟨(ad113.add (((ji11)).toNat * 5)).block, (ad113.add (((ji11)).toNat * 5)).off + 2, none⟩ = some (.int .i64 ((rd_T37 l0 (ji11)).f2)) ∧ w'.cell? ⟨(ad113.add (((ji11)).toNat * 5)).block, (ad113.add (((ji11)).toNat * 5)).off + 3, none⟩ = some (.int .i64 ((rd_T37 l0 (ji11)).f3)) ∧ w'.cell? ⟨(ad113.add (((ji11)).toNat * 5)).block, (ad113.add (((ji11)).toNat * 5)).off + 4, none⟩ = some (.int .i64 ((rd_T37 l0 (ji11)).f4))) (ds := []) (ba_ 17 0) kr_ rfl rfl ⟨(blk_cell BK114.out 0).trans rfl, (blk_cell BK114.out 1).trans rfl, (blk_cell BK114.out 2).trans rfl, (blk_cell BK114.out 3).trans rfl, (blk_cell BK114.out 4).trans rfl, ((HB.out.cell (World.block_lt_of_cell? w _ hw116_0)).trans hw116_0), ((HB.out.cell (World.block_lt_of_cell? w _ hw116_1)).trans hw116_1), ((HB.out.cell (World.block_lt_of_cell? w _ hw116_2)).trans hw116_2), ((HB.out.cell (World.block_lt_of_cell? w _ hw116_3)).trans hw116_3), ((HB.out.cell (World.block_lt_of_cell? w _ hw116_4)).trans hw116_4)⟩ (fun hHeld => ?_); refine with_tabW spec_LotsOk.tab8 spec_LotsOk.bits8 (fun HT_ HW_ => ?_)
           generalize w15.drew = w16 at BK114 HB hx116_0 hx116_1 hx116_2 hx116_3 hx116_4 hHeld ⊢
           refine ta_ 0 20 HT_.out HW_.out hHeld (ba_ 17 1) ?_
           refine one_ (i := 1) (N := some 21) (ba_ 17 3) rfl rfl (one_of HT_.out kr_) (by decide) (fun K hK => ?_)
           refine goes_ Try.func39 kr_ rfl #[.agg #[.int .i64 ((rd_T37 l0 x5_1).f0), .int .i64 ((rd_T37 l0 x5_1).f1), .int .i64 ((rd_T37 l0 x5_1).f2), .int .i64 ((rd_T37 l0 x5_1).f3), .int .i64 ((rd_T37 l0 x5_1).f4)]] (by rfl) rfl rfl (bc_) ?_
           with_reducible refine (spec_l5Right.calls ((rd_T37 l0 x5_1).f0) ((rd_T37 l0 x5_1).f1) ((rd_T37 l0 x5_1).f2) ((rd_T37 l0 x5_1).f3) ((rd_T37 l0 x5_1).f4) true _ A8.out).mono ?_
           rintro e w17 ⟨rfl, hb⟩
           refine ⟨_, rfl, ?_⟩
           have n0_ := Aside0.mk (blk_below (g := gb114) (o := .cells #[.int .i64 ((rd_T37 l0 x5_1).f0), .int .i64 ((rd_T37 l0 x5_1).f1), .int .i64 ((rd_T37 l0 x5_1).f2), .int .i64 ((rd_T37 l0 x5_1).f3), .int .i64 ((rd_T37 l0 x5_1).f4)] 37 (0, 0)) (pb_ BK114.out) hb)
           have n1_ := Aside0.mk (below_step (bg_ GE114.out) hb)
           clear BK114
           clear HB
           have BK114 := n0_
           have HB := n1_
           clear n0_ n1_
           (try clear hb)
           (try clear hb2)
           (try clear hk)
           (try clear hi)
           refine hK.out _ _ ⟨(blk_cell BK114.out 0).trans rfl, (blk_cell BK114.out 1).trans rfl, (blk_cell BK114.out 2).trans rfl, (blk_cell BK114.out 3).trans rfl, (blk_cell BK114.out 4).trans rfl, ((HB.out.cell (World.block_lt_of_cell? w _ hw116_0)).trans hw116_0), ((HB.out.cell (World.block_lt_of_cell? w _ hw116_1)).trans hw116_1), ((HB.out.cell (World.block_lt_of_cell? w _ hw116_2)).trans hw116_2), ((HB.out.cell (World.block_lt_of_cell? w _ hw116_3)).trans hw116_3), ((HB.out.cell (World.block_lt_of_cell? w _ hw116_4)).trans hw116_4)⟩ (fun hHeld => ?_)
           clear hK K
           refine norm_ (a' := ?_) ?_ ?_
           rotate_left
           ·
            show Act.put _ (some 21) _ = _
            exact sp_
           refine pu_ 2 22 HT_.out (ba_ 17 7) ?_
           refine pu_ 3 23 HT_.out (ba_ 17 15) ?_
           refine pu_ 4 24 HT_.out (ba_ 17 31) ?_
           refine pu_ 5 25 HT_.out (ba_ 17 63) ?_
           refine pu_ 6 26 HT_.out (ba_ 17 127) ?_
           refine pu_ 7 27 HT_.out (ba_ 17 255) ?_
           refine pu_ 8 28 HT_.out (ba_ 17 511) ?_
           refine pu_ 9 29 HT_.out (ba_ 17 1023) ?_
           refine pu_ 10 30 HT_.out (ba_ 17 2047) ?_
           refine ta_ 11 31 HT_.out HW_.out hHeld (ba_ 17 4095) ?_
           refine ta_ 12 32 HT_.out HW_.out hHeld (ba_ 17 8191) ?_
           refine one_ (i := 13) (N := some 33) (ba_ 17 16383) rfl rfl (one_of HT_.out kr_) (by decide) (fun K hK => ?_)
           refine goes_ Try.func40 kr_ rfl #[.agg #[.int .i64 ((rd_T37 l0 (ji11)).f0), .int .i64 ((rd_T37 l0 (ji11)).f1), .int .i64 ((rd_T37 l0 (ji11)).f2), .int .i64 ((rd_T37 l0 (ji11)).f3), .int .i64 ((rd_T37 l0 (ji11)).f4)], .agg #[.int .i64 ((rd_T37 l0 x5_1).f0), .int .i64 ((rd_T37 l0 x5_1).f1), .int .i64 ((rd_T37 l0 x5_1).f2), .int .i64 ((rd_T37 l0 x5_1).f3), .int .i64 ((rd_T37 l0 x5_1).f4)]] (by rfl) rfl rfl (by (try simp only [List.map_toArray, List.map_cons, List.map_nil]); first | done | (simp only [hji11]; rfl) | rfl | (simp only [List.length_drop, List.length_take]; rfl)) ?_
           with_reducible refine (spec_l5Before.calls ((rd_T37 l0 (ji11)).f0) ((rd_T37 l0 (ji11)).f1) ((rd_T37 l0 (ji11)).f2) ((rd_T37 l0 (ji11)).f3) ((rd_T37 l0 (ji11)).f4) ((rd_T37 l0 x5_1).f0) ((rd_T37 l0 x5_1).f1) ((rd_T37 l0 x5_1).f2) ((rd_T37 l0 x5_1).f3) ((rd_T37 l0 x5_1).f4) t117 _ A14.out).mono ?_
           rintro e w18 ⟨rfl, hb⟩
           refine ⟨_, rfl, ?_⟩
           have n0_ := Aside0.mk (blk_below (g := gb114) (o := .cells #[.int .i64 ((rd_T37 l0 x5_1).f0), .int .i64 ((rd_T37 l0 x5_1).f1), .int .i64 ((rd_T37 l0 x5_1).f2), .int .i64 ((rd_T37 l0 x5_1).f3), .int .i64 ((rd_T37 l0 x5_1).f4)] 37 (0, 0)) (pb_ BK114.out) hb)
           have n1_ := Aside0.mk (below_step (bg_ GE114.out) hb)
           clear BK114
           clear HB
           have BK114 := n0_
           have HB := n1_
           clear n0_ n1_
           (try clear hb)
           (try clear hb2)
           (try clear hk)
           (try clear hi)
           refine hK.out _ _ ⟨(blk_cell BK114.out 0).trans rfl, (blk_cell BK114.out 1).trans rfl, (blk_cell BK114.out 2).trans rfl, (blk_cell BK114.out 3).trans rfl, (blk_cell BK114.out 4).trans rfl, ((HB.out.cell (World.block_lt_of_cell? w _ hw116_0)).trans hw116_0), ((HB.out.cell (World.block_lt_of_cell? w _ hw116_1)).trans hw116_1), ((HB.out.cell (World.block_lt_of_cell? w _ hw116_2)).trans hw116_2), ((HB.out.cell (World.block_lt_of_cell? w _ hw116_3)).trans hw116_3), ((HB.out.cell (World.block_lt_of_cell? w _ hw116_4)).trans hw116_4)⟩ (fun hHeld => ?_)
           clear hK K
           refine norm_ (a' := ?_) ?_ ?_
           rotate_left
           ·
            show Act.put _ (some 33) _ = _
            exact sp_
           refine pu_ 14 34 HT_.out (ba_ 17 32767) ?_
           refine pu_ 15 35 HT_.out (ba_ 17 65535) ?_
           refine pu_ 16 36 HT_.out (ba_ 17 131071) ?_
           refine done_ (done_of HT_.out kr_) ?_
           try go_wp2
           go_meet
           case rel => exact ⟨_, (!t117), (by first | rfl | (simp; done) | (simp [*]; done)), H', ⟨by have := HK1.out; first | omega | exact Nat.le_refl _⟩, ⟨by (with_reducible repeat (first | refine blk_drewN ?_ _ | refine blk_drew ?_ | refine blk_alloc ?_ _)); exact BK114.out⟩, ⟨bg_ GE114.out⟩⟩
          ·
           rw [if_neg c13] at H
           exact absurd H (by simp)
         ·
          rw [if_neg c12] at H
          exact absurd H (by simp)
        ·
         rw [if_neg c10] at H
         have c10b0 : decide (0 < x5_1) = false := decide_eq_false c10
         clear c10
         (first | rw [c10b0] | (simp only [i64_w, i32_w]; rw [c10b0]) | skip)
         have H' := Aside0.mk H
         clear H
         try go_wp2
         have n0_ : Aside0 ((((((w6.setCell ⟨gb114, 0, none⟩ (.int .i64 ((rd_T37 l0 x5_1).f0))).setCell ⟨gb114, 1, none⟩ (.int .i64 ((rd_T37 l0 x5_1).f1))).setCell ⟨gb114, 2, none⟩ (.int .i64 ((rd_T37 l0 x5_1).f2))).setCell ⟨gb114, 3, none⟩ (.int .i64 ((rd_T37 l0 x5_1).f3))).setCell ⟨gb114, 4, none⟩ (.int .i64 ((rd_T37 l0 x5_1).f4))).heap[gb114]? = some (.cells #[.int .i64 ((rd_T37 l0 x5_1).f0), .int .i64 ((rd_T37 l0 x5_1).f1), .int .i64 ((rd_T37 l0 x5_1).f2), .int .i64 ((rd_T37 l0 x5_1).f3), .int .i64 ((rd_T37 l0 x5_1).f4)] 37 (0, 0))) := ⟨by (with_reducible repeat (first | refine blk_drewN ?_ _ | refine blk_drew ?_ | refine blk_alloc ?_ _)); refine blk_put (cs := #[.int .i64 ((rd_T37 l0 x5_1).f0), .int .i64 ((rd_T37 l0 x5_1).f1), .int .i64 ((rd_T37 l0 x5_1).f2), .int .i64 ((rd_T37 l0 x5_1).f3), .int .i64 0]) ?_ 4 _ rfl; (with_reducible repeat (first | refine blk_drewN ?_ _ | refine blk_drew ?_ | refine blk_alloc ?_ _)); refine blk_put (cs := #[.int .i64 ((rd_T37 l0 x5_1).f0), .int .i64 ((rd_T37 l0 x5_1).f1), .int .i64 ((rd_T37 l0 x5_1).f2), .int .i64 0, .int .i64 0]) ?_ 3 _ rfl; (with_reducible repeat (first | refine blk_drewN ?_ _ | refine blk_drew ?_ | refine blk_alloc ?_ _)); refine blk_put (cs := #[.int .i64 ((rd_T37 l0 x5_1).f0), .int .i64 ((rd_T37 l0 x5_1).f1), .int .i64 0, .int .i64 0, .int .i64 0]) ?_ 2 _ rfl; (with_reducible repeat (first | refine blk_drewN ?_ _ | refine blk_drew ?_ | refine blk_alloc ?_ _)); refine blk_put (cs := #[.int .i64 ((rd_T37 l0 x5_1).f0), .int .i64 0, .int .i64 0, .int .i64 0, .int .i64 0]) ?_ 1 _ rfl; (with_reducible repeat (first | refine blk_drewN ?_ _ | refine blk_drew ?_ | refine blk_alloc ?_ _)); refine blk_put (cs := #[.int .i64 0, .int .i64 0, .int .i64 0, .int .i64 0, .int .i64 0]) ?_ 0 _ rfl; (with_reducible repeat (first | refine blk_drewN ?_ _ | refine blk_drew ?_ | refine blk_alloc ?_ _)); exact BK114.out⟩
         have n1_ : Aside0 (Below w.heap.size w (((((w6.setCell ⟨gb114, 0, none⟩ (.int .i64 ((rd_T37 l0 x5_1).f0))).setCell ⟨gb114, 1, none⟩ (.int .i64 ((rd_T37 l0 x5_1).f1))).setCell ⟨gb114, 2, none⟩ (.int .i64 ((rd_T37 l0 x5_1).f2))).setCell ⟨gb114, 3, none⟩ (.int .i64 ((rd_T37 l0 x5_1).f3))).setCell ⟨gb114, 4, none⟩ (.int .i64 ((rd_T37 l0 x5_1).f4)))) := ⟨bg_ GE114.out⟩
         (try clear BK114)
         (try clear HB)
         generalize (((((w6.setCell ⟨gb114, 0, none⟩ (.int .i64 ((rd_T37 l0 x5_1).f0))).setCell ⟨gb114, 1, none⟩ (.int .i64 ((rd_T37 l0 x5_1).f1))).setCell ⟨gb114, 2, none⟩ (.int .i64 ((rd_T37 l0 x5_1).f2))).setCell ⟨gb114, 3, none⟩ (.int .i64 ((rd_T37 l0 x5_1).f3))).setCell ⟨gb114, 4, none⟩ (.int .i64 ((rd_T37 l0 x5_1).f4))) = w19 at n0_ n1_ ⊢
         have BK114 := n0_
         have HB := n1_
         clear n0_ n1_
         have n0_ := Aside0.mk (blk_drew BK114.out)
         have n1_ := Aside0.mk (below_drew1 HB.out)
         clear BK114
         clear HB
         have BK114 := n0_
         have HB := n1_
         clear n0_ n1_
         refine start_ (n := 17) (S := fun w' => w'.cell? ⟨gb114, 0, none⟩ = some (.int .i64 ((rd_T37 l0 x5_1).f0)) ∧ w'.cell? ⟨gb114, 1, none⟩ = some (.int .i64 ((rd_T37 l0 x5_1).f1)) ∧ w'.cell? ⟨gb114, 2, none⟩ = some (.int .i64 ((rd_T37 l0 x5_1).f2)) ∧ w'.cell? ⟨gb114, 3, none⟩ = some (.int .i64 ((rd_T37 l0 x5_1).f3)) ∧ w'.cell? ⟨gb114, 4, none⟩ = some (.int .i64 ((rd_T37 l0 x5_1).f4))) (ds := []) (ba_ 17 0) kr_ rfl rfl ⟨(blk_cell BK114.out 0).trans rfl, (blk_cell BK114.out 1).trans rfl, (blk_cell BK114.out 2).trans rfl, (blk_cell BK114.out 3).trans rfl, (blk_cell BK114.out 4).trans rfl⟩ (fun hHeld => ?_); refine with_tabW spec_LotsOk.tab8 spec_LotsOk.bits8 (fun HT_ HW_ => ?_)
         generalize w19.drew = w20 at BK114 HB hHeld ⊢
         refine ta_ 0 20 HT_.out HW_.out hHeld (ba_ 17 1) ?_
         refine one_ (i := 1) (N := some 21) (ba_ 17 3) rfl rfl (one_of HT_.out kr_) (by decide) (fun K hK => ?_)
         refine goes_ Try.func39 kr_ rfl #[.agg #[.int .i64 ((rd_T37 l0 x5_1).f0), .int .i64 ((rd_T37 l0 x5_1).f1), .int .i64 ((rd_T37 l0 x5_1).f2), .int .i64 ((rd_T37 l0 x5_1).f3), .int .i64 ((rd_T37 l0 x5_1).f4)]] (by rfl) rfl rfl (bc_) ?_
         with_reducible refine (spec_l5Right.calls ((rd_T37 l0 x5_1).f0) ((rd_T37 l0 x5_1).f1) ((rd_T37 l0 x5_1).f2) ((rd_T37 l0 x5_1).f3) ((rd_T37 l0 x5_1).f4) true _ A8.out).mono ?_
         rintro e w21 ⟨rfl, hb⟩
         refine ⟨_, rfl, ?_⟩
         have n0_ := Aside0.mk (blk_below (g := gb114) (o := .cells #[.int .i64 ((rd_T37 l0 x5_1).f0), .int .i64 ((rd_T37 l0 x5_1).f1), .int .i64 ((rd_T37 l0 x5_1).f2), .int .i64 ((rd_T37 l0 x5_1).f3), .int .i64 ((rd_T37 l0 x5_1).f4)] 37 (0, 0)) (pb_ BK114.out) hb)
         have n1_ := Aside0.mk (below_step (bg_ GE114.out) hb)
         clear BK114
         clear HB
         have BK114 := n0_
         have HB := n1_
         clear n0_ n1_
         (try clear hb)
         (try clear hb2)
         (try clear hk)
         (try clear hi)
         refine hK.out _ _ ⟨(blk_cell BK114.out 0).trans rfl, (blk_cell BK114.out 1).trans rfl, (blk_cell BK114.out 2).trans rfl, (blk_cell BK114.out 3).trans rfl, (blk_cell BK114.out 4).trans rfl⟩ (fun hHeld => ?_)
         clear hK K
         refine norm_ (a' := ?_) ?_ ?_
         rotate_left
         ·
          show Act.put _ (some 21) _ = _
          exact sp_
         refine pu_ 2 22 HT_.out (ba_ 17 7) ?_
         refine pu_ 3 23 HT_.out (ba_ 17 15) ?_
         refine pu_ 4 24 HT_.out (ba_ 17 31) ?_
         refine pu_ 5 25 HT_.out (ba_ 17 63) ?_
         refine pu_ 6 26 HT_.out (ba_ 17 127) ?_
         refine sk_ 7 27 HT_.out (ba_ 17 255) ?_
         refine sk_ 8 28 HT_.out (ba_ 17 511) ?_
         refine sk_ 9 29 HT_.out (ba_ 17 1023) ?_
         refine sk_ 10 30 HT_.out (ba_ 17 2047) ?_
         refine sk_ 11 31 HT_.out (ba_ 17 4095) ?_
         refine sk_ 12 32 HT_.out (ba_ 17 8191) ?_
         refine sk_ 13 33 HT_.out (ba_ 17 16383) ?_
         refine sk_ 14 34 HT_.out (ba_ 17 32767) ?_
         refine pu_ 15 35 HT_.out (ba_ 17 65535) ?_
         refine pu_ 16 36 HT_.out (ba_ 17 131071) ?_
         refine done_ (done_of HT_.out kr_) ?_
         try go_wp2
         go_meet
         case rel => exact ⟨_, (false), (by first | rfl | (simp; done) | (simp [*]; done)), H', ⟨by have := HK1.out; first | omega | exact Nat.le_refl _⟩, ⟨by (with_reducible repeat (first | refine blk_drewN ?_ _ | refine blk_drew ?_ | refine blk_alloc ?_ _)); exact BK114.out⟩, ⟨bg_ GE114.out⟩⟩
       ·
        replace c9 := Bool.eq_false_iff.mpr c9
        subst c9
        have H1 := Eq.trans (if_neg nf_).symm H
        clear H
        have H := H1
        clear H1
        have H' := Aside0.mk H
        clear H
        try go_wp2
        have n0_ : Aside0 ((((((w6.setCell ⟨gb114, 0, none⟩ (.int .i64 ((rd_T37 l0 x5_1).f0))).setCell ⟨gb114, 1, none⟩ (.int .i64 ((rd_T37 l0 x5_1).f1))).setCell ⟨gb114, 2, none⟩ (.int .i64 ((rd_T37 l0 x5_1).f2))).setCell ⟨gb114, 3, none⟩ (.int .i64 ((rd_T37 l0 x5_1).f3))).setCell ⟨gb114, 4, none⟩ (.int .i64 ((rd_T37 l0 x5_1).f4))).heap[gb114]? = some (.cells #[.int .i64 ((rd_T37 l0 x5_1).f0), .int .i64 ((rd_T37 l0 x5_1).f1), .int .i64 ((rd_T37 l0 x5_1).f2), .int .i64 ((rd_T37 l0 x5_1).f3), .int .i64 ((rd_T37 l0 x5_1).f4)] 37 (0, 0))) := ⟨by (with_reducible repeat (first | refine blk_drewN ?_ _ | refine blk_drew ?_ | refine blk_alloc ?_ _)); refine blk_put (cs := #[.int .i64 ((rd_T37 l0 x5_1).f0), .int .i64 ((rd_T37 l0 x5_1).f1), .int .i64 ((rd_T37 l0 x5_1).f2), .int .i64 ((rd_T37 l0 x5_1).f3), .int .i64 0]) ?_ 4 _ rfl; (with_reducible repeat (first | refine blk_drewN ?_ _ | refine blk_drew ?_ | refine blk_alloc ?_ _)); refine blk_put (cs := #[.int .i64 ((rd_T37 l0 x5_1).f0), .int .i64 ((rd_T37 l0 x5_1).f1), .int .i64 ((rd_T37 l0 x5_1).f2), .int .i64 0, .int .i64 0]) ?_ 3 _ rfl; (with_reducible repeat (first | refine blk_drewN ?_ _ | refine blk_drew ?_ | refine blk_alloc ?_ _)); refine blk_put (cs := #[.int .i64 ((rd_T37 l0 x5_1).f0), .int .i64 ((rd_T37 l0 x5_1).f1), .int .i64 0, .int .i64 0, .int .i64 0]) ?_ 2 _ rfl; (with_reducible repeat (first | refine blk_drewN ?_ _ | refine blk_drew ?_ | refine blk_alloc ?_ _)); refine blk_put (cs := #[.int .i64 ((rd_T37 l0 x5_1).f0), .int .i64 0, .int .i64 0, .int .i64 0, .int .i64 0]) ?_ 1 _ rfl; (with_reducible repeat (first | refine blk_drewN ?_ _ | refine blk_drew ?_ | refine blk_alloc ?_ _)); refine blk_put (cs := #[.int .i64 0, .int .i64 0, .int .i64 0, .int .i64 0, .int .i64 0]) ?_ 0 _ rfl; (with_reducible repeat (first | refine blk_drewN ?_ _ | refine blk_drew ?_ | refine blk_alloc ?_ _)); exact BK114.out⟩
        have n1_ : Aside0 (Below w.heap.size w (((((w6.setCell ⟨gb114, 0, none⟩ (.int .i64 ((rd_T37 l0 x5_1).f0))).setCell ⟨gb114, 1, none⟩ (.int .i64 ((rd_T37 l0 x5_1).f1))).setCell ⟨gb114, 2, none⟩ (.int .i64 ((rd_T37 l0 x5_1).f2))).setCell ⟨gb114, 3, none⟩ (.int .i64 ((rd_T37 l0 x5_1).f3))).setCell ⟨gb114, 4, none⟩ (.int .i64 ((rd_T37 l0 x5_1).f4)))) := ⟨bg_ GE114.out⟩
        (try clear BK114)
        (try clear HB)
        generalize (((((w6.setCell ⟨gb114, 0, none⟩ (.int .i64 ((rd_T37 l0 x5_1).f0))).setCell ⟨gb114, 1, none⟩ (.int .i64 ((rd_T37 l0 x5_1).f1))).setCell ⟨gb114, 2, none⟩ (.int .i64 ((rd_T37 l0 x5_1).f2))).setCell ⟨gb114, 3, none⟩ (.int .i64 ((rd_T37 l0 x5_1).f3))).setCell ⟨gb114, 4, none⟩ (.int .i64 ((rd_T37 l0 x5_1).f4))) = w22 at n0_ n1_ ⊢
        have BK114 := n0_
        have HB := n1_
        clear n0_ n1_
        have n0_ := Aside0.mk (blk_drew BK114.out)
        have n1_ := Aside0.mk (below_drew1 HB.out)
        clear BK114
        clear HB
        have BK114 := n0_
        have HB := n1_
        clear n0_ n1_
        refine start_ (n := 17) (S := fun w' => w'.cell? ⟨gb114, 0, none⟩ = some (.int .i64 ((rd_T37 l0 x5_1).f0)) ∧ w'.cell? ⟨gb114, 1, none⟩ = some (.int .i64 ((rd_T37 l0 x5_1).f1)) ∧ w'.cell? ⟨gb114, 2, none⟩ = some (.int .i64 ((rd_T37 l0 x5_1).f2)) ∧ w'.cell? ⟨gb114, 3, none⟩ = some (.int .i64 ((rd_T37 l0 x5_1).f3)) ∧ w'.cell? ⟨gb114, 4, none⟩ = some (.int .i64 ((rd_T37 l0 x5_1).f4))) (ds := []) (ba_ 17 0) kr_ rfl rfl ⟨(blk_cell BK114.out 0).trans rfl, (blk_cell BK114.out 1).trans rfl, (blk_cell BK114.out 2).trans rfl, (blk_cell BK114.out 3).trans rfl, (blk_cell BK114.out 4).trans rfl⟩ (fun hHeld => ?_); refine with_tabW spec_LotsOk.tab8 spec_LotsOk.bits8 (fun HT_ HW_ => ?_)
        generalize w22.drew = w23 at BK114 HB hHeld ⊢
        refine ta_ 0 20 HT_.out HW_.out hHeld (ba_ 17 1) ?_
        refine one_ (i := 1) (N := some 21) (ba_ 17 3) rfl rfl (one_of HT_.out kr_) (by decide) (fun K hK => ?_)
        refine goes_ Try.func39 kr_ rfl #[.agg #[.int .i64 ((rd_T37 l0 x5_1).f0), .int .i64 ((rd_T37 l0 x5_1).f1), .int .i64 ((rd_T37 l0 x5_1).f2), .int .i64 ((rd_T37 l0 x5_1).f3), .int .i64 ((rd_T37 l0 x5_1).f4)]] (by rfl) rfl rfl (bc_) ?_
        with_reducible refine (spec_l5Right.calls ((rd_T37 l0 x5_1).f0) ((rd_T37 l0 x5_1).f1) ((rd_T37 l0 x5_1).f2) ((rd_T37 l0 x5_1).f3) ((rd_T37 l0 x5_1).f4) false _ A8.out).mono ?_
        rintro e w24 ⟨rfl, hb⟩
        refine ⟨_, rfl, ?_⟩
        have n0_ := Aside0.mk (blk_below (g := gb114) (o := .cells #[.int .i64 ((rd_T37 l0 x5_1).f0), .int .i64 ((rd_T37 l0 x5_1).f1), .int .i64 ((rd_T37 l0 x5_1).f2), .int .i64 ((rd_T37 l0 x5_1).f3), .int .i64 ((rd_T37 l0 x5_1).f4)] 37 (0, 0)) (pb_ BK114.out) hb)
        have n1_ := Aside0.mk (below_step (bg_ GE114.out) hb)
        clear BK114
        clear HB
        have BK114 := n0_
        have HB := n1_
        clear n0_ n1_
        (try clear hb)
        (try clear hb2)
        (try clear hk)
        (try clear hi)
        refine hK.out _ _ ⟨(blk_cell BK114.out 0).trans rfl, (blk_cell BK114.out 1).trans rfl, (blk_cell BK114.out 2).trans rfl, (blk_cell BK114.out 3).trans rfl, (blk_cell BK114.out 4).trans rfl⟩ (fun hHeld => ?_)
        clear hK K
        refine norm_ (a' := ?_) ?_ ?_
        rotate_left
        ·
         show Act.put _ (some 21) _ = _
         exact sp_
        refine pu_ 2 22 HT_.out (ba_ 17 7) ?_
        refine pu_ 3 23 HT_.out (ba_ 17 15) ?_
        refine sk_ 4 24 HT_.out (ba_ 17 31) ?_
        refine sk_ 5 25 HT_.out (ba_ 17 63) ?_
        refine sk_ 6 26 HT_.out (ba_ 17 127) ?_
        refine sk_ 7 27 HT_.out (ba_ 17 255) ?_
        refine sk_ 8 28 HT_.out (ba_ 17 511) ?_
        refine sk_ 9 29 HT_.out (ba_ 17 1023) ?_
        refine sk_ 10 30 HT_.out (ba_ 17 2047) ?_
        refine sk_ 11 31 HT_.out (ba_ 17 4095) ?_
        refine sk_ 12 32 HT_.out (ba_ 17 8191) ?_
        refine sk_ 13 33 HT_.out (ba_ 17 16383) ?_
        refine sk_ 14 34 HT_.out (ba_ 17 32767) ?_
        refine sk_ 15 35 HT_.out (ba_ 17 65535) ?_
        refine pu_ 16 36 HT_.out (ba_ 17 131071) ?_
        refine done_ (done_of HT_.out kr_) ?_
        try go_wp2
        go_meet
        case rel => exact ⟨_, (true), (by first | rfl | (simp; done) | (simp [*]; done)), H', ⟨by have := HK1.out; first | omega | exact Nat.le_refl _⟩, ⟨by (with_reducible repeat (first | refine blk_drewN ?_ _ | refine blk_drew ?_ | refine blk_alloc ?_ _)); exact BK114.out⟩, ⟨bg_ GE114.out⟩⟩
      case rest =>
       clear HC5
       try clear c1
       try clear p1
       try clear q1
       try clear hx1
       try clear c2b0
       try clear c2b1
       try clear p2
       try clear c3b0
       try clear c4b0
       try clear p6
       try clear c9
       try clear c10b0
       try clear p11
       try clear q11
       try clear hx11
       try clear c12b0
       try clear c13b0
       try clear c15
       try clear hcz7_0
       try clear hcz7_1
       try clear hcz7_2
       try clear hcz7_3
       try clear hcz7_4
       try clear hfz7_0
       try clear hfz7_1
       try clear hfz7_2
       try clear hfz7_3
       try clear hfz7_4
       try clear hx113_0
       try clear hx113_1
       try clear hx113_2
       try clear hx113_3
       try clear hx113_4
       try clear hx116_0
       try clear hx116_1
       try clear hx116_2
       try clear hx116_3
       try clear hx116_4
       try clear p113
       try clear p116
       try clear p2
       try clear q113
       try clear q116
       obtain ⟨kq, x36_4, rfl, HA, HJ4, BK114, HB⟩ := hcut
       cases kq with
       | zero => exact absurd HA.out (by simp [spec_LotsOk.j1])
       | succ kj4 =>
        have H := HA.out
        clear HA
        simp only [spec_LotsOk.j1] at H
        by_cases c25 : x36_4 = true
        ·
         subst c25
         have H1 := Eq.trans (if_pos rfl).symm H
         clear H
         have H := H1
         clear H1
         obtain rfl := Option.some.inj H
         go_wp2
         go_ret
         exact ⟨er_, bg_ GE114.out⟩
        ·
         replace c25 := Bool.eq_false_iff.mpr c25
         subst c25
         have H1 := Eq.trans (if_neg nf_).symm H
         clear H
         have H := H1
         clear H1
         have HC26 := Aside0.mk H
         clear H
         go_upto_region 10 with (fail)
         go_cut [60] (fun v60 wc => ∃ (kq : Nat) (x60_25 : Bool), v60 = .bool x60_25 ∧ Aside0 (spec_LotsOk.j2 kq l0 x3_1 x4_1 x5_1 x60_25 ((rd_T37 l0 x5_1).f0) ((rd_T37 l0 x5_1).f1) ((rd_T37 l0 x5_1).f2) ((rd_T37 l0 x5_1).f3) ((rd_T37 l0 x5_1).f4) = some r) ∧ Aside0 (kq ≤ kj4) ∧ Aside0 (wc.heap[gb114]? = some (.cells #[.int .i64 ((rd_T37 l0 x5_1).f0), .int .i64 ((rd_T37 l0 x5_1).f1), .int .i64 ((rd_T37 l0 x5_1).f2), .int .i64 ((rd_T37 l0 x5_1).f3), .int .i64 ((rd_T37 l0 x5_1).f4)] 37 (0, 0))) ∧ Aside0 (Below w.heap.size w wc))
         case first =>
          have H := HC26.out
          clear HC26
          by_cases c27 : x5_1 = 0
          ·
           rw [if_pos c27] at H
           have c27b0 : (x5_1 == 0) = true := beq_iff_eq.mpr c27
           have c27b1 : (x5_1 != 0) = false := bne_eq_false_iff_eq.mpr c27
           clear c27
           (first | rw [c27b0] | (simp only [i64_w, i32_w]; rw [c27b0]) | skip)
           have H' := Aside0.mk H
           clear H
           try go_wp2
           have n0_ := Aside0.mk (blk_drew BK114.out)
           have n1_ := Aside0.mk (below_drew1 HB.out)
           clear BK114
           clear HB
           have BK114 := n0_
           have HB := n1_
           clear n0_ n1_
           refine start_ (n := 24) (S := fun w' => True) (ds := []) (ba_ 24 0) kr_ rfl rfl trivial (fun hHeld => ?_); refine with_tabW spec_LotsOk.tab10 spec_LotsOk.bits10 (fun HT_ HW_ => ?_)
           generalize wc.drew = w28 at BK114 HB hHeld ⊢
           refine pu_ 0 37 HT_.out (ba_ 24 1) ?_
           refine pu_ 1 38 HT_.out (ba_ 24 3) ?_
           refine pu_ 2 39 HT_.out (ba_ 24 7) ?_
           refine sk_ 3 40 HT_.out (ba_ 24 15) ?_
           refine sk_ 4 41 HT_.out (ba_ 24 31) ?_
           refine sk_ 5 42 HT_.out (ba_ 24 63) ?_
           refine sk_ 6 43 HT_.out (ba_ 24 127) ?_
           refine sk_ 7 44 HT_.out (ba_ 24 255) ?_
           refine sk_ 8 45 HT_.out (ba_ 24 511) ?_
           refine sk_ 9 46 HT_.out (ba_ 24 1023) ?_
           refine sk_ 10 47 HT_.out (ba_ 24 2047) ?_
           refine sk_ 11 48 HT_.out (ba_ 24 4095) ?_
           refine pu_ 12 49 HT_.out (ba_ 24 8191) ?_
           refine pu_ 13 50 HT_.out (ba_ 24 16383) ?_
           refine sk_ 14 51 HT_.out (ba_ 24 32767) ?_
           refine sk_ 15 52 HT_.out (ba_ 24 65535) ?_
           refine sk_ 16 53 HT_.out (ba_ 24 131071) ?_
           refine sk_ 17 54 HT_.out (ba_ 24 262143) ?_
           refine sk_ 18 55 HT_.out (ba_ 24 524287) ?_
           refine sk_ 19 56 HT_.out (ba_ 24 1048575) ?_
           refine sk_ 20 57 HT_.out (ba_ 24 2097151) ?_
           refine sk_ 21 58 HT_.out (ba_ 24 4194303) ?_
           refine sk_ 22 59 HT_.out (ba_ 24 8388607) ?_
           refine pu_ 23 60 HT_.out (ba_ 24 16777215) ?_
           refine done_ (done_of HT_.out kr_) ?_
           try go_wp2
           go_meet
           case rel => exact ⟨_, (true), (by first | rfl | (simp; done) | (simp [*]; done)), H', ⟨by have := HK1.out; have := HJ4.out; first | omega | exact Nat.le_refl _⟩, ⟨by (with_reducible repeat (first | refine blk_drewN ?_ _ | refine blk_drew ?_ | refine blk_alloc ?_ _)); exact BK114.out⟩, ⟨bg_ GE114.out⟩⟩
          ·
           rw [if_neg c27] at H
           have c27b0 : (x5_1 == 0) = false := beq_eq_false_iff_ne.mpr c27
           have c27b1 : (x5_1 != 0) = true := bne_iff_ne.mpr c27
           (first | rw [c27b0] | (simp only [i64_w, i32_w]; rw [c27b0]) | skip)
           obtain ⟨ji29, hji29⟩ : ∃ j_ : Int, (wrap64 (x5_1 - 1)) = j_ := ⟨_, rfl⟩
           replace H : (if 0 ≤ (ji29) then (if (ji29) < (l0.length : Int) then (if ((rd_T37 l0 x5_1).f0) = ((rd_T37 l0 (ji29)).f0) then (spec_LotsOk.j2 kj4 l0 x3_1 x4_1 x5_1 (((rd_T37 l0 x5_1).f1) != ((rd_T37 l0 (ji29)).f1)) ((rd_T37 l0 x5_1).f0) ((rd_T37 l0 x5_1).f1) ((rd_T37 l0 x5_1).f2) ((rd_T37 l0 x5_1).f3) ((rd_T37 l0 x5_1).f4)) else (spec_LotsOk.j2 kj4 l0 x3_1 x4_1 x5_1 true ((rd_T37 l0 x5_1).f0) ((rd_T37 l0 x5_1).f1) ((rd_T37 l0 x5_1).f2) ((rd_T37 l0 x5_1).f3) ((rd_T37 l0 x5_1).f4))) else (none)) else (none)) = some r := rj_ hji29 H
           have hji29w : (IntKind.i64.wrap (x5_1 - 1)) = ji29 := (i64_w _).trans hji29
           by_cases c30 : 0 ≤ (ji29)
           ·
            rw [if_pos c30] at H
            have c30b0 : decide (0 ≤ (ji29)) = true := decide_eq_true c30
            clear c30
            by_cases c31 : (ji29) < (l0.length : Int)
            ·
             rw [if_pos c31] at H
             have c31b0 : decide ((ji29) < (l0.length : Int)) = true := decide_eq_true c31
             clear c31
             by_cases c32 : ((rd_T37 l0 x5_1).f0) = ((rd_T37 l0 (ji29)).f0)
             ·
              rw [if_pos c32] at H
              have c32b0 : (((rd_T37 l0 x5_1).f0) == ((rd_T37 l0 (ji29)).f0)) = true := beq_iff_eq.mpr c32
              have c32b1 : (((rd_T37 l0 x5_1).f0) != ((rd_T37 l0 (ji29)).f0)) = false := bne_eq_false_iff_eq.mpr c32
              clear c32
              have H' := Aside0.mk H
              clear H
              try go_wp2
              have n0_ := Aside0.mk (blk_drew BK114.out)
              have n1_ := Aside0.mk (below_drew1 HB.out)
              clear BK114
              clear HB
              have BK114 := n0_
              have HB := n1_
              clear n0_ n1_
              have p118 : 0 ≤ ((ji29) : Int) := od_
              have q118 : (ji29) < (l0.length : Int) := od_
              obtain ⟨ad118, e118, hx118_0, hx118_1, hx118_2, hx118_3, hx118_4⟩ := at_T37 HR0.out (ji29) p118 q118
              have hw118_4 := hx118_4
              have hw118_3 := hx118_3
              have hw118_2 := hx118_2
              have hw118_1 := hx118_1
              have hw118_0 := hx118_0
              obtain rfl : ad113 = ad118 := (by injection e118)
              replace hx118_0 := cl_ HB.out hx118_0
              replace hx118_1 := cl_ HB.out hx118_1
              replace hx118_2 := cl_ HB.out hx118_2
              replace hx118_3 := cl_ HB.out hx118_3
              replace hx118_4 := cl_ HB.out hx118_4
              replace p118 := eq_true p118
              replace q118 := eq_true q118
              have p119 : 0 ≤ ((ji29) : Int) := od_
              have q119 : (ji29) < (l0.length : Int) := od_
              obtain ⟨ad119, e119, hx119_0, hx119_1, hx119_2, hx119_3, hx119_4⟩ := at_T37 HR0.out (ji29) p119 q119
              have hw119_4 := hx119_4
              have hw119_3 := hx119_3
              have hw119_2 := hx119_2
              have hw119_1 := hx119_1
              have hw119_0 := hx119_0
              obtain rfl : ad113 = ad119 := (by injection e119)
              replace hx119_0 := cl_ HB.out hx119_0
              replace hx119_1 := cl_ HB.out hx119_1
              replace hx119_2 := cl_ HB.out hx119_2
              replace hx119_3 := cl_ HB.out hx119_3
              replace hx119_4 := cl_ HB.out hx119_4
              replace p119 := eq_true p119
              replace q119 := eq_true q119
              refine start_ (n := 24) (S := fun w' => w'.cell? ⟨gb114, 0, none⟩ = some (.int .i64 ((rd_T37 l0 x5_1).f0)) ∧ w'.cell? ⟨gb114, 1, none⟩ = some (.int .i64 ((rd_T37 l0 x5_1).f1)) ∧ w'.cell? ⟨gb114, 2, none⟩ = some (.int .i64 ((rd_T37 l0 x5_1).f2)) ∧ w'.cell? ⟨gb114, 3, none⟩ = some (.int .i64 ((rd_T37 l0 x5_1).f3)) ∧ w'.cell? ⟨gb114, 4, none⟩ = some (.int .i64 ((rd_T37 l0 x5_1).f4)) ∧ w'.cell? (ad113.add (((ji29)).toNat * 5)) = some (.int .i64 ((rd_T37 l0 (ji29)).f0)) ∧ w'.cell? ⟨(ad113.add (((ji29)).toNat * 5)).block, (ad113.add (((ji29)).toNat * 5)).off + 1, none⟩ = some (.int .i64 ((rd_T37 l0 (ji29)).f1)) ∧ w'.cell? ⟨(ad113.add (((ji29)).toNat * 5)).block, (ad113.add (((ji29)).toNat * 5)).off + 2, none⟩ = some (.int .i64 ((rd_T37 l0 (ji29)).f2)) ∧ w'.cell? ⟨(ad113.add (((ji29)).toNat * 5)).block, (ad113.add (((ji29)).toNat * 5)).off + 3, none⟩ = some (.int .i64 ((rd_T37 l0 (ji29)).f3)) ∧ w'.cell? ⟨(ad113.add (((ji29)).toNat * 5)).block, (ad113.add (((ji29)).toNat * 5)).off + 4, none⟩ = some (.int .i64 ((rd_T37 l0 (ji29)).f4)) ∧ w'.cell? (ad113.add (((ji29)).toNat * 5)) = some (.int .i64 ((rd_T37 l0 (ji29)).f0)) ∧ w'.cell? ⟨(ad113.add (((ji29)).toNat * 5)).block, (ad113.add (((ji29)).toNat * 5)).off + 1, none⟩ = some (.int .i64 ((rd_T37 l0 (ji29)).f1)) ∧ w'.cell? ⟨(ad113.add (((ji29)).toNat * 5)).block, (ad113.add (((ji29)).toNat * 5)).off + 2, none⟩ = some (.int .i64 ((rd_T37 l0 (ji29)).f2)) ∧ w'.cell? ⟨(ad113.add (((ji29)).toNat * 5)).block, (ad113.add (((ji29)).toNat * 5)).off + 3, none⟩ = some (.int .i64 ((rd_T37 l0 (ji29)).f3)) ∧ w'.cell? ⟨(ad113.add (((ji29)).toNat * 5)).block, (ad113.add (((ji29)).toNat * 5)).off + 4, none⟩ = some (.int .i64 ((rd_T37 l0 (ji29)).f4))) (ds := []) (ba_ 24 0) kr_ rfl rfl ⟨(blk_cell BK114.out 0).trans rfl, (blk_cell BK114.out 1).trans rfl, (blk_cell BK114.out 2).trans rfl, (blk_cell BK114.out 3).trans rfl, (blk_cell BK114.out 4).trans rfl, ((HB.out.cell (World.block_lt_of_cell? w _ hw118_0)).trans hw118_0), ((HB.out.cell (World.block_lt_of_cell? w _ hw118_1)).trans hw118_1), ((HB.out.cell (World.block_lt_of_cell? w _ hw118_2)).trans hw118_2), ((HB.out.cell (World.block_lt_of_cell? w _ hw118_3)).trans hw118_3), ((HB.out.cell (World.block_lt_of_cell? w _ hw118_4)).trans hw118_4), ((HB.out.cell (World.block_lt_of_cell? w _ hw119_0)).trans hw119_0), ((HB.out.cell (World.block_lt_of_cell? w _ hw119_1)).trans hw119_1), ((HB.out.cell (World.block_lt_of_cell? w _ hw119_2)).trans hw119_2), ((HB.out.cell (World.block_lt_of_cell? w _ hw119_3)).trans hw119_3), ((HB.out.cell (World.block_lt_of_cell? w _ hw119_4)).trans hw119_4)⟩ (fun hHeld => ?_); refine with_tabW spec_LotsOk.tab10 spec_LotsOk.bits10 (fun HT_ HW_ => ?_)
              generalize wc.drew = w33 at BK114 HB hx118_0 hx118_1 hx118_2 hx118_3 hx118_4 hx119_0 hx119_1 hx119_2 hx119_3 hx119_4 hHeld ⊢
              refine pu_ 0 37 HT_.out (ba_ 24 1) ?_
              refine pu_ 1 38 HT_.out (ba_ 24 3) ?_
              refine pu_ 2 39 HT_.out (ba_ 24 7) ?_
              refine pu_ 3 40 HT_.out (ba_ 24 15) ?_
              refine pu_ 5 42 HT_.out (ba_ 24 47) ?_
              refine pu_ 6 43 HT_.out (ba_ 24 111) ?_
              refine pu_ 7 44 HT_.out (ba_ 24 239) ?_
              refine pu_ 8 45 HT_.out (ba_ 24 495) ?_
              refine pu_ 9 46 HT_.out (ba_ 24 1007) ?_
              refine ta_ 4 41 HT_.out HW_.out hHeld (ba_ 24 1023) ?_
              refine ta_ 10 47 HT_.out HW_.out hHeld (ba_ 24 2047) ?_
              refine pu_ 11 48 HT_.out (ba_ 24 4095) ?_
              refine pu_ 12 49 HT_.out (ba_ 24 8191) ?_
              refine pu_ 13 50 HT_.out (ba_ 24 16383) ?_
              refine pu_ 14 51 HT_.out (ba_ 24 32767) ?_
              refine pu_ 16 53 HT_.out (ba_ 24 98303) ?_
              refine pu_ 17 54 HT_.out (ba_ 24 229375) ?_
              refine pu_ 18 55 HT_.out (ba_ 24 491519) ?_
              refine pu_ 19 56 HT_.out (ba_ 24 1015807) ?_
              refine pu_ 20 57 HT_.out (ba_ 24 2064383) ?_
              refine ta_ 15 52 HT_.out HW_.out hHeld (ba_ 24 2097151) ?_
              refine ta_ 21 58 HT_.out HW_.out hHeld (ba_ 24 4194303) ?_
              refine pu_ 22 59 HT_.out (ba_ 24 8388607) ?_
              refine pu_ 23 60 HT_.out (ba_ 24 16777215) ?_
              refine done_ (done_of HT_.out kr_) ?_
              try go_wp2
              go_meet
              case rel => exact ⟨_, ((((rd_T37 l0 x5_1).f1) != ((rd_T37 l0 (ji29)).f1))), (by first | rfl | (simp; done) | (simp only [← hji29] <;> (first | rfl | simp)) | (simp [*]; done)), H', ⟨by have := HK1.out; have := HJ4.out; first | omega | exact Nat.le_refl _⟩, ⟨by (with_reducible repeat (first | refine blk_drewN ?_ _ | refine blk_drew ?_ | refine blk_alloc ?_ _)); exact BK114.out⟩, ⟨bg_ GE114.out⟩⟩
             ·
              rw [if_neg c32] at H
              have c32b0 : (((rd_T37 l0 x5_1).f0) == ((rd_T37 l0 (ji29)).f0)) = false := beq_eq_false_iff_ne.mpr c32
              have c32b1 : (((rd_T37 l0 x5_1).f0) != ((rd_T37 l0 (ji29)).f0)) = true := bne_iff_ne.mpr c32
              have H' := Aside0.mk H
              clear H
              try go_wp2
              have n0_ := Aside0.mk (blk_drew BK114.out)
              have n1_ := Aside0.mk (below_drew1 HB.out)
              clear BK114
              clear HB
              have BK114 := n0_
              have HB := n1_
              clear n0_ n1_
              have p118 : 0 ≤ ((ji29) : Int) := od_
              have q118 : (ji29) < (l0.length : Int) := od_
              obtain ⟨ad118, e118, hx118_0, hx118_1, hx118_2, hx118_3, hx118_4⟩ := at_T37 HR0.out (ji29) p118 q118
              have hw118_4 := hx118_4
              have hw118_3 := hx118_3
              have hw118_2 := hx118_2
              have hw118_1 := hx118_1
              have hw118_0 := hx118_0
              obtain rfl : ad113 = ad118 := (by injection e118)
              replace hx118_0 := cl_ HB.out hx118_0
              replace hx118_1 := cl_ HB.out hx118_1
              replace hx118_2 := cl_ HB.out hx118_2
              replace hx118_3 := cl_ HB.out hx118_3
              replace hx118_4 := cl_ HB.out hx118_4
              replace p118 := eq_true p118
              replace q118 := eq_true q118
              refine start_ (n := 24) (S := fun w' => w'.cell? ⟨gb114, 0, none⟩ = some (.int .i64 ((rd_T37 l0 x5_1).f0)) ∧ w'.cell? ⟨gb114, 1, none⟩ = some (.int .i64 ((rd_T37 l0 x5_1).f1)) ∧ w'.cell? ⟨gb114, 2, none⟩ = some (.int .i64 ((rd_T37 l0 x5_1).f2)) ∧ w'.cell? ⟨gb114, 3, none⟩ = some (.int .i64 ((rd_T37 l0 x5_1).f3)) ∧ w'.cell? ⟨gb114, 4, none⟩ = some (.int .i64 ((rd_T37 l0 x5_1).f4)) ∧ w'.cell? (ad113.add (((ji29)).toNat * 5)) = some (.int .i64 ((rd_T37 l0 (ji29)).f0)) ∧ w'.cell? ⟨(ad113.add (((ji29)).toNat * 5)).block, (ad113.add (((ji29)).toNat * 5)).off + 1, none⟩ = some (.int .i64 ((rd_T37 l0 (ji29)).f1)) ∧ w'.cell? ⟨(ad113.add (((ji29)).toNat * 5)).block, (ad113.add (((ji29)).toNat * 5)).off + 2, none⟩ = some (.int .i64 ((rd_T37 l0 (ji29)).f2)) ∧ w'.cell? ⟨(ad113.add (((ji29)).toNat * 5)).block, (ad113.add (((ji29)).toNat * 5)).off + 3, none⟩ = some (.int .i64 ((rd_T37 l0 (ji29)).f3)) ∧ w'.cell? ⟨(ad113.add (((ji29)).toNat * 5)).block, (ad113.add (((ji29)).toNat * 5)).off + 4, none⟩ = some (.int .i64 ((rd_T37 l0 (ji29)).f4))) (ds := []) (ba_ 24 0) kr_ rfl rfl ⟨(blk_cell BK114.out 0).trans rfl, (blk_cell BK114.out 1).trans rfl, (blk_cell BK114.out 2).trans rfl, (blk_cell BK114.out 3).trans rfl, (blk_cell BK114.out 4).trans rfl, ((HB.out.cell (World.block_lt_of_cell? w _ hw118_0)).trans hw118_0), ((HB.out.cell (World.block_lt_of_cell? w _ hw118_1)).trans hw118_1), ((HB.out.cell (World.block_lt_of_cell? w _ hw118_2)).trans hw118_2), ((HB.out.cell (World.block_lt_of_cell? w _ hw118_3)).trans hw118_3), ((HB.out.cell (World.block_lt_of_cell? w _ hw118_4)).trans hw118_4)⟩ (fun hHeld => ?_); refine with_tabW spec_LotsOk.tab10 spec_LotsOk.bits10 (fun HT_ HW_ => ?_)
              generalize wc.drew = w34 at BK114 HB hx118_0 hx118_1 hx118_2 hx118_3 hx118_4 hHeld ⊢
              refine pu_ 0 37 HT_.out (ba_ 24 1) ?_
              refine pu_ 1 38 HT_.out (ba_ 24 3) ?_
              refine pu_ 2 39 HT_.out (ba_ 24 7) ?_
              refine pu_ 3 40 HT_.out (ba_ 24 15) ?_
              refine pu_ 5 42 HT_.out (ba_ 24 47) ?_
              refine pu_ 6 43 HT_.out (ba_ 24 111) ?_
              refine pu_ 7 44 HT_.out (ba_ 24 239) ?_
              refine pu_ 8 45 HT_.out (ba_ 24 495) ?_
              refine pu_ 9 46 HT_.out (ba_ 24 1007) ?_
              refine ta_ 4 41 HT_.out HW_.out hHeld (ba_ 24 1023) ?_
              refine ta_ 10 47 HT_.out HW_.out hHeld (ba_ 24 2047) ?_
              refine pu_ 11 48 HT_.out (ba_ 24 4095) ?_
              refine pu_ 12 49 HT_.out (ba_ 24 8191) ?_
              refine pu_ 13 50 HT_.out (ba_ 24 16383) ?_
              refine sk_ 14 51 HT_.out (ba_ 24 32767) ?_
              refine sk_ 15 52 HT_.out (ba_ 24 65535) ?_
              refine sk_ 16 53 HT_.out (ba_ 24 131071) ?_
              refine sk_ 17 54 HT_.out (ba_ 24 262143) ?_
              refine sk_ 18 55 HT_.out (ba_ 24 524287) ?_
              refine sk_ 19 56 HT_.out (ba_ 24 1048575) ?_
              refine sk_ 20 57 HT_.out (ba_ 24 2097151) ?_
              refine sk_ 21 58 HT_.out (ba_ 24 4194303) ?_
              refine sk_ 22 59 HT_.out (ba_ 24 8388607) ?_
              refine pu_ 23 60 HT_.out (ba_ 24 16777215) ?_
              refine done_ (done_of HT_.out kr_) ?_
              try go_wp2
              go_meet
              case rel => exact ⟨_, (true), (by first | rfl | (simp; done) | (simp [*]; done)), H', ⟨by have := HK1.out; have := HJ4.out; first | omega | exact Nat.le_refl _⟩, ⟨by (with_reducible repeat (first | refine blk_drewN ?_ _ | refine blk_drew ?_ | refine blk_alloc ?_ _)); exact BK114.out⟩, ⟨bg_ GE114.out⟩⟩
            ·
             rw [if_neg c31] at H
             exact absurd H (by simp)
           ·
            rw [if_neg c30] at H
            exact absurd H (by simp)
         case rest =>
          clear HC26
          try clear p1
          try clear q1
          try clear hx1
          try clear p2
          try clear p6
          try clear p11
          try clear q11
          try clear hx11
          try clear c27b0
          try clear c27b1
          try clear c30b0
          try clear c31b0
          try clear c32b0
          try clear c32b1
          try clear hx118_0
          try clear hx118_1
          try clear hx118_2
          try clear hx118_3
          try clear hx118_4
          try clear hx119_0
          try clear hx119_1
          try clear hx119_2
          try clear hx119_3
          try clear hx119_4
          try clear p118
          try clear p119
          try clear q118
          try clear q119
          obtain ⟨kq, x60_25, rfl, HA, HJ25, BK114, HB⟩ := hcut
          cases kq with
          | zero => exact absurd HA.out (by simp [spec_LotsOk.j2])
          | succ kj25 =>
           have H := HA.out
           clear HA
           simp only [spec_LotsOk.j2] at H
           have HC35 := Aside0.mk H
           clear H
           go_upto_if 60 with (fail)
           go_cut [3, 4] (fun v3 v4 wc => ∃ (kq : Nat) (x3_34 : Int) (x4_34 : Int), v3 = .int .i64 x3_34 ∧ v4 = .int .i64 x4_34 ∧ Aside0 (spec_LotsOk.j3 kq l0 x3_34 x4_34 x5_1 ((rd_T37 l0 x5_1).f0) ((rd_T37 l0 x5_1).f1) ((rd_T37 l0 x5_1).f2) ((rd_T37 l0 x5_1).f3) ((rd_T37 l0 x5_1).f4) = some r) ∧ Aside0 (kq ≤ kj25) ∧ Aside0 (wc.heap[gb114]? = some (.cells #[.int .i64 ((rd_T37 l0 x5_1).f0), .int .i64 ((rd_T37 l0 x5_1).f1), .int .i64 ((rd_T37 l0 x5_1).f2), .int .i64 ((rd_T37 l0 x5_1).f3), .int .i64 ((rd_T37 l0 x5_1).f4)] 37 (0, 0))) ∧ Aside0 (Below w.heap.size w wc))
           case first =>
            have H := HC35.out
            clear HC35
            by_cases c36 : x60_25 = true
            ·
             subst c36
             have H1 := Eq.trans (if_pos rfl).symm H
             clear H
             have H := H1
             clear H1
             have H' := Aside0.mk H
             clear H
             go_wp2
             go_meet
             case rel => exact ⟨_, (0), (0), (by first | rfl | (simp; done) | (simp [*]; done)), (by first | rfl | (simp; done) | (simp [*]; done)), H', ⟨by have := HK1.out; have := HJ4.out; have := HJ25.out; first | omega | exact Nat.le_refl _⟩, ⟨by (with_reducible repeat (first | refine blk_drewN ?_ _ | refine blk_drew ?_ | refine blk_alloc ?_ _)); exact BK114.out⟩, ⟨bg_ GE114.out⟩⟩
            ·
             replace c36 := Bool.eq_false_iff.mpr c36
             subst c36
             have H1 := Eq.trans (if_neg nf_).symm H
             clear H
             have H := H1
             clear H1
             have H' := Aside0.mk H
             clear H
             go_wp2
             go_meet
             case rel => exact ⟨_, (x3_1), (x4_1), (by first | rfl | (simp; done) | (simp [*]; done)), (by first | rfl | (simp; done) | (simp [*]; done)), H', ⟨by have := HK1.out; have := HJ4.out; have := HJ25.out; first | omega | exact Nat.le_refl _⟩, ⟨by (with_reducible repeat (first | refine blk_drewN ?_ _ | refine blk_drew ?_ | refine blk_alloc ?_ _)); exact BK114.out⟩, ⟨bg_ GE114.out⟩⟩
           case rest =>
            clear HC35
            try clear p1
            try clear q1
            try clear hx1
            try clear p2
            try clear p6
            try clear p11
            try clear q11
            try clear hx11
            try clear c27b0
            try clear c27b1
            try clear c30b0
            try clear c31b0
            try clear c32b0
            try clear c32b1
            try clear c36
            try clear hx118_0
            try clear hx118_1
            try clear hx118_2
            try clear hx118_3
            try clear hx118_4
            try clear hx119_0
            try clear hx119_1
            try clear hx119_2
            try clear hx119_3
            try clear hx119_4
            try clear p1
            try clear p11
            try clear p118
            try clear p119
            try clear p2
            try clear p6
            try clear q1
            try clear q11
            try clear q118
            try clear q119
            obtain ⟨kq, x3_34, x4_34, rfl, rfl, HA, HJ34, BK114, HB⟩ := hcut
            cases kq with
            | zero => exact absurd HA.out (by simp [spec_LotsOk.j3])
            | succ kj34 =>
             have H := HA.out
             clear HA
             simp only [spec_LotsOk.j3] at H
             replace H := Option.bind_eq_some_iff.mp H
             obtain ⟨t120, A370, H⟩ := H
             have A37 := Aside0.mk A370
             clear A370
             by_cases c38 : t120 = true
             ·
              subst c38
              have H1 := Eq.trans (if_pos rfl).symm H
              clear H
              have H := H1
              clear H1
              replace H := Option.bind_eq_some_iff.mp H
              obtain ⟨t121, A390, H⟩ := H
              have A39 := Aside0.mk A390
              clear A390
              by_cases c40 : t121 = true
              ·
               subst c40
               have H1 := Eq.trans (if_pos rfl).symm H
               clear H
               have H := H1
               clear H1
               have H' := Aside0.mk H
               clear H
               have hcz41_0 : wc.cell? ⟨gb114, 0, none⟩ = some (.int .i64 ((rd_T37 l0 x5_1).f0)) := (blk_cell BK114.out 0).trans rfl
               have hcz41_1 : wc.cell? ⟨gb114, 1, none⟩ = some (.int .i64 ((rd_T37 l0 x5_1).f1)) := (blk_cell BK114.out 1).trans rfl
               have hcz41_2 : wc.cell? ⟨gb114, 2, none⟩ = some (.int .i64 ((rd_T37 l0 x5_1).f2)) := (blk_cell BK114.out 2).trans rfl
               have hcz41_3 : wc.cell? ⟨gb114, 3, none⟩ = some (.int .i64 ((rd_T37 l0 x5_1).f3)) := (blk_cell BK114.out 3).trans rfl
               have hcz41_4 : wc.cell? ⟨gb114, 4, none⟩ = some (.int .i64 ((rd_T37 l0 x5_1).f4)) := (blk_cell BK114.out 4).trans rfl
               have hfz41_0 := blk_frozen BK114.out 0
               have hfz41_1 := blk_frozen BK114.out 1
               have hfz41_2 := blk_frozen BK114.out 2
               have hfz41_3 := blk_frozen BK114.out 3
               have hfz41_4 := blk_frozen BK114.out 4
               go_wp2_with (first | ((with_reducible refine gate_callee (f := 41) rfl ?_); refine goesL_ (some 70) rfl rfl Try.func41 kr_ rfl #[.int .i64 (wrap64 (x3_34 + ((rd_T37 l0 x5_1).f3)))] rfl (bc_) ?_; (with_reducible refine (spec_AmountOk.calls (wrap64 (x3_34 + ((rd_T37 l0 x5_1).f3))) true _ A37.out).mono ?_); rintro e w' ⟨rfl, ⟨nd, rfl⟩⟩; refine ⟨_, rfl, ?_⟩) | (go_at_call 41; (with_reducible refine (spec_AmountOk.calls (wrap64 (x4_34 + ((rd_T37 l0 x5_1).f4))) true _ A39.out).mono ?_); rintro e w' ⟨rfl, ⟨nd, rfl⟩⟩))
               go_roundg kj34
               case measure => have := HK1.out; have := HJ4.out; have := HJ25.out; have := HJ34.out; omega
               case rel => exact ⟨(wrap64 (x3_34 + ((rd_T37 l0 x5_1).f3))), (wrap64 (x4_34 + ((rd_T37 l0 x5_1).f4))), (wrap64 (x5_1 + 1)), (by first | rfl | (simp; done) | (simp [*]; done)), (by first | rfl | (simp; done) | (simp [*]; done)), (by first | rfl | (simp; done) | (simp [*]; done)), H', ⟨by have := HK1.out; have := HJ4.out; have := HJ25.out; have := HJ34.out; omega⟩, ⟨bg_ GE114.out⟩⟩
              ·
               replace c40 := Bool.eq_false_iff.mpr c40
               subst c40
               have H1 := Eq.trans (if_neg nf_).symm H
               clear H
               have H := H1
               clear H1
               obtain rfl := Option.some.inj H
               have hcz42_0 : wc.cell? ⟨gb114, 0, none⟩ = some (.int .i64 ((rd_T37 l0 x5_1).f0)) := (blk_cell BK114.out 0).trans rfl
               have hcz42_1 : wc.cell? ⟨gb114, 1, none⟩ = some (.int .i64 ((rd_T37 l0 x5_1).f1)) := (blk_cell BK114.out 1).trans rfl
               have hcz42_2 : wc.cell? ⟨gb114, 2, none⟩ = some (.int .i64 ((rd_T37 l0 x5_1).f2)) := (blk_cell BK114.out 2).trans rfl
               have hcz42_3 : wc.cell? ⟨gb114, 3, none⟩ = some (.int .i64 ((rd_T37 l0 x5_1).f3)) := (blk_cell BK114.out 3).trans rfl
               have hcz42_4 : wc.cell? ⟨gb114, 4, none⟩ = some (.int .i64 ((rd_T37 l0 x5_1).f4)) := (blk_cell BK114.out 4).trans rfl
               have hfz42_0 := blk_frozen BK114.out 0
               have hfz42_1 := blk_frozen BK114.out 1
               have hfz42_2 := blk_frozen BK114.out 2
               have hfz42_3 := blk_frozen BK114.out 3
               have hfz42_4 := blk_frozen BK114.out 4
               go_wp2_with (first | ((with_reducible refine gate_callee (f := 41) rfl ?_); refine goesL_ (some 70) rfl rfl Try.func41 kr_ rfl #[.int .i64 (wrap64 (x3_34 + ((rd_T37 l0 x5_1).f3)))] rfl (bc_) ?_; (with_reducible refine (spec_AmountOk.calls (wrap64 (x3_34 + ((rd_T37 l0 x5_1).f3))) true _ A37.out).mono ?_); rintro e w' ⟨rfl, ⟨nd, rfl⟩⟩; refine ⟨_, rfl, ?_⟩) | (go_at_call 41; (with_reducible refine (spec_AmountOk.calls (wrap64 (x4_34 + ((rd_T37 l0 x5_1).f4))) false _ A39.out).mono ?_); rintro e w' ⟨rfl, ⟨nd, rfl⟩⟩))
               go_ret
               exact ⟨er_, bg_ GE114.out⟩
             ·
              replace c38 := Bool.eq_false_iff.mpr c38
              subst c38
              have H1 := Eq.trans (if_neg nf_).symm H
              clear H
              have H := H1
              clear H1
              obtain rfl := Option.some.inj H
              have hcz43_0 : wc.cell? ⟨gb114, 0, none⟩ = some (.int .i64 ((rd_T37 l0 x5_1).f0)) := (blk_cell BK114.out 0).trans rfl
              have hcz43_1 : wc.cell? ⟨gb114, 1, none⟩ = some (.int .i64 ((rd_T37 l0 x5_1).f1)) := (blk_cell BK114.out 1).trans rfl
              have hcz43_2 : wc.cell? ⟨gb114, 2, none⟩ = some (.int .i64 ((rd_T37 l0 x5_1).f2)) := (blk_cell BK114.out 2).trans rfl
              have hcz43_3 : wc.cell? ⟨gb114, 3, none⟩ = some (.int .i64 ((rd_T37 l0 x5_1).f3)) := (blk_cell BK114.out 3).trans rfl
              have hcz43_4 : wc.cell? ⟨gb114, 4, none⟩ = some (.int .i64 ((rd_T37 l0 x5_1).f4)) := (blk_cell BK114.out 4).trans rfl
              have hfz43_0 := blk_frozen BK114.out 0
              have hfz43_1 := blk_frozen BK114.out 1
              have hfz43_2 := blk_frozen BK114.out 2
              have hfz43_3 := blk_frozen BK114.out 3
              have hfz43_4 := blk_frozen BK114.out 4
              go_wp2_with (first | ((with_reducible refine gate_callee (f := 41) rfl ?_); refine goesL_ (some 70) rfl rfl Try.func41 kr_ rfl #[.int .i64 (wrap64 (x3_34 + ((rd_T37 l0 x5_1).f3)))] rfl (bc_) ?_; (with_reducible refine (spec_AmountOk.calls (wrap64 (x3_34 + ((rd_T37 l0 x5_1).f3))) false _ A37.out).mono ?_); rintro e w' ⟨rfl, ⟨nd, rfl⟩⟩; refine ⟨_, rfl, ?_⟩))
              go_ret
              exact ⟨er_, bg_ GE114.out⟩
     ·
      rw [if_neg c4] at H
      exact absurd H (by simp)
    ·
     rw [if_neg c3] at H
     have c3b0 : decide (x5_1 < (l0.length : Int)) = false := decide_eq_false c3
     clear c3
     obtain rfl := Option.some.inj H
     go_wp2
     go_ret
     exact ⟨er_, bb_⟩
end Go.Proofs.Ytomanpmffjkkgaa.P
namespace Go.Proofs.Ytomanpmffjkkgaa.P
open Go.RowKit Go.Proofs.YtomanpmffjkkgaaW.PrintWords Go.Proofs.YtomanpmffjkkgaaW.PrintLast Go.Proofs.YtomanpmffjkkgaaW.PrintMore
attribute [local go_sem] max2_int min2_int max_two min_two max_three min_three max_four min_four   -- for this text's walks alone
set_option linter.unusedVariables false
set_option linter.unusedSimpArgs false
def laws_eqLot.f (a0_0 : Int) (a0_1 : Int) (a0_2 : Int) (a0_3 : Int) (a0_4 : Int) (a1_0 : Int) (a1_1 : Int) (a1_2 : Int) (a1_3 : Int) (a1_4 : Int) : Option (Bool) := if a0_0 = a1_0 then (if a0_1 = a1_1 then (if a0_2 = a1_2 then (if a0_3 = a1_3 then (if a0_4 = a1_4 then (some true) else (some false)) else (some false)) else (some false)) else (some false)) else (some false)
set_option maxHeartbeats 8000000 in
set_option maxRecDepth 100000 in
theorem laws_eqLot.calls (a0_0 : Int) (a0_1 : Int) (a0_2 : Int) (a0_3 : Int) (a0_4 : Int) (a1_0 : Int) (a1_1 : Int) (a1_2 : Int) (a1_3 : Int) (a1_4 : Int) (r : Bool) (w : World) (h : laws_eqLot.f a0_0 a0_1 a0_2 a0_3 a0_4 a1_0 a1_1 a1_2 a1_3 a1_4 = some r) :
 Calls Try.prog 49 #[.agg #[.int .i64 a0_0, .int .i64 a0_1, .int .i64 a0_2, .int .i64 a0_3, .int .i64 a0_4], .agg #[.int .i64 a1_0, .int .i64 a1_1, .int .i64 a1_2, .int .i64 a1_3, .int .i64 a1_4]] w fun e w' => e = .returned (.bool r) ∧ Below w.heap.size w w' := by
 have hu37 := Try.underlying37
 have HB := Aside0.mk (Below.refl w.heap.size w)
 have H : (if a0_0 = a1_0 then (if a0_1 = a1_1 then (if a0_2 = a1_2 then (if a0_3 = a1_3 then (if a0_4 = a1_4 then (some true) else (some false)) else (some false)) else (some false)) else (some false)) else (some false)) = some r := h
 clear h
 by_cases c3 : a0_0 = a1_0
 ·
  rw [if_pos c3] at H
  have c3b0 : (a0_0 == a1_0) = true := beq_iff_eq.mpr c3
  have c3b1 : (a0_0 != a1_0) = false := bne_eq_false_iff_eq.mpr c3
  clear c3
  by_cases c4 : a0_1 = a1_1
  ·
   rw [if_pos c4] at H
   have c4b0 : (a0_1 == a1_1) = true := beq_iff_eq.mpr c4
   have c4b1 : (a0_1 != a1_1) = false := bne_eq_false_iff_eq.mpr c4
   clear c4
   by_cases c5 : a0_2 = a1_2
   ·
    rw [if_pos c5] at H
    have c5b0 : (a0_2 == a1_2) = true := beq_iff_eq.mpr c5
    have c5b1 : (a0_2 != a1_2) = false := bne_eq_false_iff_eq.mpr c5
    clear c5
    by_cases c6 : a0_3 = a1_3
    ·
     rw [if_pos c6] at H
     have c6b0 : (a0_3 == a1_3) = true := beq_iff_eq.mpr c6
     have c6b1 : (a0_3 != a1_3) = false := bne_eq_false_iff_eq.mpr c6
     clear c6
     by_cases c7 : a0_4 = a1_4
     ·
      rw [if_pos c7] at H
      have c7b0 : (a0_4 == a1_4) = true := beq_iff_eq.mpr c7
      have c7b1 : (a0_4 != a1_4) = false := bne_eq_false_iff_eq.mpr c7
      clear c7
      obtain rfl := Option.some.inj H
      go_enter Try.func49, Try.ntmps49
      go_wp2_with (first | ((with_reducible refine gate_dst (N := 2) rfl ?_); refine be_ 2 (cs := #[.int .i64 a0_0, .int .i64 a0_1, .int .i64 a0_2, .int .i64 a0_3, .int .i64 a0_4]) (t := 37) ?_; intro gb155 hg w8 hbox hb; have n0_ := Aside0.mk (below_step (bb_) hb); have n1_ := Aside0.mk (hbox); have n2_ := Aside0.mk ((gs_ hg : w.heap.size ≤ gb155)); have n3_ := Aside0.mk ((gs_ hg : w.heap.size ≤ gb155)); clear HB; have HB := n0_; have BK155 := n1_; have GW155 := n2_; have GE155 := n3_; clear n0_ n1_ n2_ n3_; clear hb hbox hg) | ((with_reducible refine gate_dst (N := 3) rfl ?_); refine be_ 3 (cs := #[.int .i64 a1_0, .int .i64 a1_1, .int .i64 a1_2, .int .i64 a1_3, .int .i64 a1_4]) (t := 37) ?_; intro gb156 hg w9 hbox hb; have n0_ := Aside0.mk (blk_below (g := gb155) (o := .cells #[.int .i64 a0_0, .int .i64 a0_1, .int .i64 a0_2, .int .i64 a0_3, .int .i64 a0_4] 37 (0, 0)) (pb_ BK155.out) hb); have n1_ := Aside0.mk (below_step (bg_ GE155.out) hb); have n2_ := Aside0.mk (hbox); have n3_ := Aside0.mk ((by rw [hg]; exact (below_size (bg_ GE155.out)) : w.heap.size ≤ gb156)); have n4_ := Aside0.mk ((by rw [hg]; exact (below_size (bg_ GE155.out)) : w.heap.size ≤ gb156)); have n5_ := Aside0.mk ((by rw [hg]; exact Nat.ne_of_lt (blk_lt (g := gb155) (o := .cells #[.int .i64 a0_0, .int .i64 a0_1, .int .i64 a0_2, .int .i64 a0_3, .int .i64 a0_4] 37 (0, 0)) (pb_ BK155.out)) : gb155 ≠ gb156)); have n6_ := Aside0.mk ((by rw [hg]; exact Nat.ne_of_gt (blk_lt (g := gb155) (o := .cells #[.int .i64 a0_0, .int .i64 a0_1, .int .i64 a0_2, .int .i64 a0_3, .int .i64 a0_4] 37 (0, 0)) (pb_ BK155.out)) : gb156 ≠ gb155)); clear BK155; clear HB; have BK155 := n0_; have HB := n1_; have BK156 := n2_; have GW156 := n3_; have GE156 := n4_; have NB155_156 := n5_; have NB156_155 := n6_; clear n0_ n1_ n2_ n3_ n4_ n5_ n6_; clear hb hbox hg; have hnb10 := NB155_156.out; have hnc10 := NB156_155.out; obtain ⟨hcz11_0, hcz11_1, hcz11_2, hcz11_3, hcz11_4, hfz11_0, hfz11_1, hfz11_2, hfz11_3, hfz11_4⟩ := ce5_ BK155.out; obtain ⟨hcz12_0, hcz12_1, hcz12_2, hcz12_3, hcz12_4, hfz12_0, hfz12_1, hfz12_2, hfz12_3, hfz12_4⟩ := ce5_ BK156.out))
      go_ret
      exact ⟨er_, by repeat (first | (with_reducible first | exact HB.out | apply below_alloc | apply pw_below_drewN | apply below_drew1 | refine below_set ?_ GE155.out | refine below_set ?_ GE156.out) | exact HB.out)⟩
     ·
      rw [if_neg c7] at H
      have c7b0 : (a0_4 == a1_4) = false := beq_eq_false_iff_ne.mpr c7
      have c7b1 : (a0_4 != a1_4) = true := bne_iff_ne.mpr c7
      obtain rfl := Option.some.inj H
      go_enter Try.func49, Try.ntmps49
      go_wp2_with (first | ((with_reducible refine gate_dst (N := 2) rfl ?_); refine be_ 2 (cs := #[.int .i64 a0_0, .int .i64 a0_1, .int .i64 a0_2, .int .i64 a0_3, .int .i64 a0_4]) (t := 37) ?_; intro gb155 hg w13 hbox hb; have n0_ := Aside0.mk (below_step (bb_) hb); have n1_ := Aside0.mk (hbox); have n2_ := Aside0.mk ((gs_ hg : w.heap.size ≤ gb155)); have n3_ := Aside0.mk ((gs_ hg : w.heap.size ≤ gb155)); clear HB; have HB := n0_; have BK155 := n1_; have GW155 := n2_; have GE155 := n3_; clear n0_ n1_ n2_ n3_; clear hb hbox hg) | ((with_reducible refine gate_dst (N := 3) rfl ?_); refine be_ 3 (cs := #[.int .i64 a1_0, .int .i64 a1_1, .int .i64 a1_2, .int .i64 a1_3, .int .i64 a1_4]) (t := 37) ?_; intro gb156 hg w14 hbox hb; have n0_ := Aside0.mk (blk_below (g := gb155) (o := .cells #[.int .i64 a0_0, .int .i64 a0_1, .int .i64 a0_2, .int .i64 a0_3, .int .i64 a0_4] 37 (0, 0)) (pb_ BK155.out) hb); have n1_ := Aside0.mk (below_step (bg_ GE155.out) hb); have n2_ := Aside0.mk (hbox); have n3_ := Aside0.mk ((by rw [hg]; exact (below_size (bg_ GE155.out)) : w.heap.size ≤ gb156)); have n4_ := Aside0.mk ((by rw [hg]; exact (below_size (bg_ GE155.out)) : w.heap.size ≤ gb156)); have n5_ := Aside0.mk ((by rw [hg]; exact Nat.ne_of_lt (blk_lt (g := gb155) (o := .cells #[.int .i64 a0_0, .int .i64 a0_1, .int .i64 a0_2, .int .i64 a0_3, .int .i64 a0_4] 37 (0, 0)) (pb_ BK155.out)) : gb155 ≠ gb156)); have n6_ := Aside0.mk ((by rw [hg]; exact Nat.ne_of_gt (blk_lt (g := gb155) (o := .cells #[.int .i64 a0_0, .int .i64 a0_1, .int .i64 a0_2, .int .i64 a0_3, .int .i64 a0_4] 37 (0, 0)) (pb_ BK155.out)) : gb156 ≠ gb155)); clear BK155; clear HB; have BK155 := n0_; have HB := n1_; have BK156 := n2_; have GW156 := n3_; have GE156 := n4_; have NB155_156 := n5_; have NB156_155 := n6_; clear n0_ n1_ n2_ n3_ n4_ n5_ n6_; clear hb hbox hg; have hnb15 := NB155_156.out; have hnc15 := NB156_155.out; obtain ⟨hcz16_0, hcz16_1, hcz16_2, hcz16_3, hcz16_4, hfz16_0, hfz16_1, hfz16_2, hfz16_3, hfz16_4⟩ := ce5_ BK155.out; obtain ⟨hcz17_0, hcz17_1, hcz17_2, hcz17_3, hcz17_4, hfz17_0, hfz17_1, hfz17_2, hfz17_3, hfz17_4⟩ := ce5_ BK156.out))
      go_ret
      exact ⟨er_, by repeat (first | (with_reducible first | exact HB.out | apply below_alloc | apply pw_below_drewN | apply below_drew1 | refine below_set ?_ GE155.out | refine below_set ?_ GE156.out) | exact HB.out)⟩
    ·
     rw [if_neg c6] at H
     have c6b0 : (a0_3 == a1_3) = false := beq_eq_false_iff_ne.mpr c6
     have c6b1 : (a0_3 != a1_3) = true := bne_iff_ne.mpr c6
     obtain rfl := Option.some.inj H
     go_enter Try.func49, Try.ntmps49
     go_wp2_with (first | ((with_reducible refine gate_dst (N := 2) rfl ?_); refine be_ 2 (cs := #[.int .i64 a0_0, .int .i64 a0_1, .int .i64 a0_2, .int .i64 a0_3, .int .i64 a0_4]) (t := 37) ?_; intro gb155 hg w18 hbox hb; have n0_ := Aside0.mk (below_step (bb_) hb); have n1_ := Aside0.mk (hbox); have n2_ := Aside0.mk ((gs_ hg : w.heap.size ≤ gb155)); have n3_ := Aside0.mk ((gs_ hg : w.heap.size ≤ gb155)); clear HB; have HB := n0_; have BK155 := n1_; have GW155 := n2_; have GE155 := n3_; clear n0_ n1_ n2_ n3_; clear hb hbox hg) | ((with_reducible refine gate_dst (N := 3) rfl ?_); refine be_ 3 (cs := #[.int .i64 a1_0, .int .i64 a1_1, .int .i64 a1_2, .int .i64 a1_3, .int .i64 a1_4]) (t := 37) ?_; intro gb156 hg w19 hbox hb; have n0_ := Aside0.mk (blk_below (g := gb155) (o := .cells #[.int .i64 a0_0, .int .i64 a0_1, .int .i64 a0_2, .int .i64 a0_3, .int .i64 a0_4] 37 (0, 0)) (pb_ BK155.out) hb); have n1_ := Aside0.mk (below_step (bg_ GE155.out) hb); have n2_ := Aside0.mk (hbox); have n3_ := Aside0.mk ((by rw [hg]; exact (below_size (bg_ GE155.out)) : w.heap.size ≤ gb156)); have n4_ := Aside0.mk ((by rw [hg]; exact (below_size (bg_ GE155.out)) : w.heap.size ≤ gb156)); have n5_ := Aside0.mk ((by rw [hg]; exact Nat.ne_of_lt (blk_lt (g := gb155) (o := .cells #[.int .i64 a0_0, .int .i64 a0_1, .int .i64 a0_2, .int .i64 a0_3, .int .i64 a0_4] 37 (0, 0)) (pb_ BK155.out)) : gb155 ≠ gb156)); have n6_ := Aside0.mk ((by rw [hg]; exact Nat.ne_of_gt (blk_lt (g := gb155) (o := .cells #[.int .i64 a0_0, .int .i64 a0_1, .int .i64 a0_2, .int .i64 a0_3, .int .i64 a0_4] 37 (0, 0)) (pb_ BK155.out)) : gb156 ≠ gb155)); clear BK155; clear HB; have BK155 := n0_; have HB := n1_; have BK156 := n2_; have GW156 := n3_; have GE156 := n4_; have NB155_156 := n5_; have NB156_155 := n6_; clear n0_ n1_ n2_ n3_ n4_ n5_ n6_; clear hb hbox hg; have hnb20 := NB155_156.out; have hnc20 := NB156_155.out; obtain ⟨hcz21_0, hcz21_1, hcz21_2, hcz21_3, hcz21_4, hfz21_0, hfz21_1, hfz21_2, hfz21_3, hfz21_4⟩ := ce5_ BK155.out; obtain ⟨hcz22_0, hcz22_1, hcz22_2, hcz22_3, hcz22_4, hfz22_0, hfz22_1, hfz22_2, hfz22_3, hfz22_4⟩ := ce5_ BK156.out))
     go_ret
     exact ⟨er_, by repeat (first | (with_reducible first | exact HB.out | apply below_alloc | apply pw_below_drewN | apply below_drew1 | refine below_set ?_ GE155.out | refine below_set ?_ GE156.out) | exact HB.out)⟩
   ·
    rw [if_neg c5] at H
    have c5b0 : (a0_2 == a1_2) = false := beq_eq_false_iff_ne.mpr c5
    have c5b1 : (a0_2 != a1_2) = true := bne_iff_ne.mpr c5
    obtain rfl := Option.some.inj H
    go_enter Try.func49, Try.ntmps49
    go_wp2_with (first | ((with_reducible refine gate_dst (N := 2) rfl ?_); refine be_ 2 (cs := #[.int .i64 a0_0, .int .i64 a0_1, .int .i64 a0_2, .int .i64 a0_3, .int .i64 a0_4]) (t := 37) ?_; intro gb155 hg w23 hbox hb; have n0_ := Aside0.mk (below_step (bb_) hb); have n1_ := Aside0.mk (hbox); have n2_ := Aside0.mk ((gs_ hg : w.heap.size ≤ gb155)); have n3_ := Aside0.mk ((gs_ hg : w.heap.size ≤ gb155)); clear HB; have HB := n0_; have BK155 := n1_; have GW155 := n2_; have GE155 := n3_; clear n0_ n1_ n2_ n3_; clear hb hbox hg) | ((with_reducible refine gate_dst (N := 3) rfl ?_); refine be_ 3 (cs := #[.int .i64 a1_0, .int .i64 a1_1, .int .i64 a1_2, .int .i64 a1_3, .int .i64 a1_4]) (t := 37) ?_; intro gb156 hg w24 hbox hb; have n0_ := Aside0.mk (blk_below (g := gb155) (o := .cells #[.int .i64 a0_0, .int .i64 a0_1, .int .i64 a0_2, .int .i64 a0_3, .int .i64 a0_4] 37 (0, 0)) (pb_ BK155.out) hb); have n1_ := Aside0.mk (below_step (bg_ GE155.out) hb); have n2_ := Aside0.mk (hbox); have n3_ := Aside0.mk ((by rw [hg]; exact (below_size (bg_ GE155.out)) : w.heap.size ≤ gb156)); have n4_ := Aside0.mk ((by rw [hg]; exact (below_size (bg_ GE155.out)) : w.heap.size ≤ gb156)); have n5_ := Aside0.mk ((by rw [hg]; exact Nat.ne_of_lt (blk_lt (g := gb155) (o := .cells #[.int .i64 a0_0, .int .i64 a0_1, .int .i64 a0_2, .int .i64 a0_3, .int .i64 a0_4] 37 (0, 0)) (pb_ BK155.out)) : gb155 ≠ gb156)); have n6_ := Aside0.mk ((by rw [hg]; exact Nat.ne_of_gt (blk_lt (g := gb155) (o := .cells #[.int .i64 a0_0, .int .i64 a0_1, .int .i64 a0_2, .int .i64 a0_3, .int .i64 a0_4] 37 (0, 0)) (pb_ BK155.out)) : gb156 ≠ gb155)); clear BK155; clear HB; have BK155 := n0_; have HB := n1_; have BK156 := n2_; have GW156 := n3_; have GE156 := n4_; have NB155_156 := n5_; have NB156_155 := n6_; clear n0_ n1_ n2_ n3_ n4_ n5_ n6_; clear hb hbox hg; have hnb25 := NB155_156.out; have hnc25 := NB156_155.out; obtain ⟨hcz26_0, hcz26_1, hcz26_2, hcz26_3, hcz26_4, hfz26_0, hfz26_1, hfz26_2, hfz26_3, hfz26_4⟩ := ce5_ BK155.out; obtain ⟨hcz27_0, hcz27_1, hcz27_2, hcz27_3, hcz27_4, hfz27_0, hfz27_1, hfz27_2, hfz27_3, hfz27_4⟩ := ce5_ BK156.out))
    go_ret
    exact ⟨er_, by repeat (first | (with_reducible first | exact HB.out | apply below_alloc | apply pw_below_drewN | apply below_drew1 | refine below_set ?_ GE155.out | refine below_set ?_ GE156.out) | exact HB.out)⟩
  ·
   rw [if_neg c4] at H
   have c4b0 : (a0_1 == a1_1) = false := beq_eq_false_iff_ne.mpr c4
   have c4b1 : (a0_1 != a1_1) = true := bne_iff_ne.mpr c4
   obtain rfl := Option.some.inj H
   go_enter Try.func49, Try.ntmps49
   go_wp2_with (first | ((with_reducible refine gate_dst (N := 2) rfl ?_); refine be_ 2 (cs := #[.int .i64 a0_0, .int .i64 a0_1, .int .i64 a0_2, .int .i64 a0_3, .int .i64 a0_4]) (t := 37) ?_; intro gb155 hg w28 hbox hb; have n0_ := Aside0.mk (below_step (bb_) hb); have n1_ := Aside0.mk (hbox); have n2_ := Aside0.mk ((gs_ hg : w.heap.size ≤ gb155)); have n3_ := Aside0.mk ((gs_ hg : w.heap.size ≤ gb155)); clear HB; have HB := n0_; have BK155 := n1_; have GW155 := n2_; have GE155 := n3_; clear n0_ n1_ n2_ n3_; clear hb hbox hg) | ((with_reducible refine gate_dst (N := 3) rfl ?_); refine be_ 3 (cs := #[.int .i64 a1_0, .int .i64 a1_1, .int .i64 a1_2, .int .i64 a1_3, .int .i64 a1_4]) (t := 37) ?_; intro gb156 hg w29 hbox hb; have n0_ := Aside0.mk (blk_below (g := gb155) (o := .cells #[.int .i64 a0_0, .int .i64 a0_1, .int .i64 a0_2, .int .i64 a0_3, .int .i64 a0_4] 37 (0, 0)) (pb_ BK155.out) hb); have n1_ := Aside0.mk (below_step (bg_ GE155.out) hb); have n2_ := Aside0.mk (hbox); have n3_ := Aside0.mk ((by rw [hg]; exact (below_size (bg_ GE155.out)) : w.heap.size ≤ gb156)); have n4_ := Aside0.mk ((by rw [hg]; exact (below_size (bg_ GE155.out)) : w.heap.size ≤ gb156)); have n5_ := Aside0.mk ((by rw [hg]; exact Nat.ne_of_lt (blk_lt (g := gb155) (o := .cells #[.int .i64 a0_0, .int .i64 a0_1, .int .i64 a0_2, .int .i64 a0_3, .int .i64 a0_4] 37 (0, 0)) (pb_ BK155.out)) : gb155 ≠ gb156)); have n6_ := Aside0.mk ((by rw [hg]; exact Nat.ne_of_gt (blk_lt (g := gb155) (o := .cells #[.int .i64 a0_0, .int .i64 a0_1, .int .i64 a0_2, .int .i64 a0_3, .int .i64 a0_4] 37 (0, 0)) (pb_ BK155.out)) : gb156 ≠ gb155)); clear BK155; clear HB; have BK155 := n0_; have HB := n1_; have BK156 := n2_; have GW156 := n3_; have GE156 := n4_; have NB155_156 := n5_; have NB156_155 := n6_; clear n0_ n1_ n2_ n3_ n4_ n5_ n6_; clear hb hbox hg; have hnb30 := NB155_156.out; have hnc30 := NB156_155.out; obtain ⟨hcz31_0, hcz31_1, hcz31_2, hcz31_3, hcz31_4, hfz31_0, hfz31_1, hfz31_2, hfz31_3, hfz31_4⟩ := ce5_ BK155.out; obtain ⟨hcz32_0, hcz32_1, hcz32_2, hcz32_3, hcz32_4, hfz32_0, hfz32_1, hfz32_2, hfz32_3, hfz32_4⟩ := ce5_ BK156.out))
   go_ret
   exact ⟨er_, by repeat (first | (with_reducible first | exact HB.out | apply below_alloc | apply pw_below_drewN | apply below_drew1 | refine below_set ?_ GE155.out | refine below_set ?_ GE156.out) | exact HB.out)⟩
 ·
  rw [if_neg c3] at H
  have c3b0 : (a0_0 == a1_0) = false := beq_eq_false_iff_ne.mpr c3
  have c3b1 : (a0_0 != a1_0) = true := bne_iff_ne.mpr c3
  obtain rfl := Option.some.inj H
  go_enter Try.func49, Try.ntmps49
  go_wp2_with (first | ((with_reducible refine gate_dst (N := 2) rfl ?_); refine be_ 2 (cs := #[.int .i64 a0_0, .int .i64 a0_1, .int .i64 a0_2, .int .i64 a0_3, .int .i64 a0_4]) (t := 37) ?_; intro gb155 hg w33 hbox hb; have n0_ := Aside0.mk (below_step (bb_) hb); have n1_ := Aside0.mk (hbox); have n2_ := Aside0.mk ((gs_ hg : w.heap.size ≤ gb155)); have n3_ := Aside0.mk ((gs_ hg : w.heap.size ≤ gb155)); clear HB; have HB := n0_; have BK155 := n1_; have GW155 := n2_; have GE155 := n3_; clear n0_ n1_ n2_ n3_; clear hb hbox hg) | ((with_reducible refine gate_dst (N := 3) rfl ?_); refine be_ 3 (cs := #[.int .i64 a1_0, .int .i64 a1_1, .int .i64 a1_2, .int .i64 a1_3, .int .i64 a1_4]) (t := 37) ?_; intro gb156 hg w34 hbox hb; have n0_ := Aside0.mk (blk_below (g := gb155) (o := .cells #[.int .i64 a0_0, .int .i64 a0_1, .int .i64 a0_2, .int .i64 a0_3, .int .i64 a0_4] 37 (0, 0)) (pb_ BK155.out) hb); have n1_ := Aside0.mk (below_step (bg_ GE155.out) hb); have n2_ := Aside0.mk (hbox); have n3_ := Aside0.mk ((by rw [hg]; exact (below_size (bg_ GE155.out)) : w.heap.size ≤ gb156)); have n4_ := Aside0.mk ((by rw [hg]; exact (below_size (bg_ GE155.out)) : w.heap.size ≤ gb156)); have n5_ := Aside0.mk ((by rw [hg]; exact Nat.ne_of_lt (blk_lt (g := gb155) (o := .cells #[.int .i64 a0_0, .int .i64 a0_1, .int .i64 a0_2, .int .i64 a0_3, .int .i64 a0_4] 37 (0, 0)) (pb_ BK155.out)) : gb155 ≠ gb156)); have n6_ := Aside0.mk ((by rw [hg]; exact Nat.ne_of_gt (blk_lt (g := gb155) (o := .cells #[.int .i64 a0_0, .int .i64 a0_1, .int .i64 a0_2, .int .i64 a0_3, .int .i64 a0_4] 37 (0, 0)) (pb_ BK155.out)) : gb156 ≠ gb155)); clear BK155; clear HB; have BK155 := n0_; have HB := n1_; have BK156 := n2_; have GW156 := n3_; have GE156 := n4_; have NB155_156 := n5_; have NB156_155 := n6_; clear n0_ n1_ n2_ n3_ n4_ n5_ n6_; clear hb hbox hg; have hnb35 := NB155_156.out; have hnc35 := NB156_155.out; obtain ⟨hcz36_0, hcz36_1, hcz36_2, hcz36_3, hcz36_4, hfz36_0, hfz36_1, hfz36_2, hfz36_3, hfz36_4⟩ := ce5_ BK155.out; obtain ⟨hcz37_0, hcz37_1, hcz37_2, hcz37_3, hcz37_4, hfz37_0, hfz37_1, hfz37_2, hfz37_3, hfz37_4⟩ := ce5_ BK156.out))
  go_ret
  exact ⟨er_, by repeat (first | (with_reducible first | exact HB.out | apply below_alloc | apply pw_below_drewN | apply below_drew1 | refine below_set ?_ GE155.out | refine below_set ?_ GE156.out) | exact HB.out)⟩
def laws_eqLotS.l0 : Nat → List (S37) → List (S37) → Int → Option (Bool)
 | 0, _, _, _ => none
 | k + 1, x0, x1, x5 => if x5 < (x0.length : Int) then (if 0 ≤ x5 then (if x5 < (x1.length : Int) then ((laws_eqLot.f ((rd_T37 x0 x5).f0) ((rd_T37 x0 x5).f1) ((rd_T37 x0 x5).f2) ((rd_T37 x0 x5).f3) ((rd_T37 x0 x5).f4) ((rd_T37 x1 x5).f0) ((rd_T37 x1 x5).f1) ((rd_T37 x1 x5).f2) ((rd_T37 x1 x5).f3) ((rd_T37 x1 x5).f4)).bind fun t159 => (if t159 = true then (laws_eqLotS.l0 k x0 x1 (wrap64 (x5 + 1))) else (some false))) else (none)) else (none)) else (some true)
def laws_eqLotS.f (k : Nat) (l0 : List (S37)) (l1 : List (S37)) : Option (Bool) := if (l0.length : Int) = (l1.length : Int) then (laws_eqLotS.l0 k l0 l1 0) else (some false)
def laws_eqLotS.T6 : Bool × List (List Nat × List Nat) := (true, [([], []), ([], []), ([0, 1], [0, 1]), ([2], [2]), ([], []), ([], []), ([4, 5], [4, 5]), ([6], [6]), ([3, 7], [3, 7]), ([8], [8])])
def laws_eqLotS.B6 : List Nat := [0, 0, 3, 7, 0, 0, 48, 112, 255, 511]
theorem laws_eqLotS.tab6 : rtab .any (opsOf Try.f18 6) = laws_eqLotS.T6 := by kernel_rfl
theorem laws_eqLotS.bits6 : waitsOk laws_eqLotS.T6.2 laws_eqLotS.B6 = true := by kernel_rfl
set_option maxHeartbeats 8000000 in
set_option maxRecDepth 100000 in
theorem laws_eqLotS.calls (k : Nat) (A0 : Option Addr) (c0 : Nat) (l0 : List (S37)) (A1 : Option Addr) (c1 : Nat) (l1 : List (S37)) (r : Bool) (w : World) (hr0 : Kd.C k37 w A0 l0.length l0) (hc0 : l0.length ≤ c0) (hr1 : Kd.C k37 w A1 l1.length l1) (hc1 : l1.length ≤ c1) (h : laws_eqLotS.f k l0 l1 = some r) :
 Calls Try.prog 18 #[.slice A0 l0.length c0, .slice A1 l1.length c1] w fun e w' => e = .returned (.bool r) ∧ Below w.heap.size w w' := by
 have hu37 := Try.underlying37
 have HR0 := Aside0.mk hr0
 have HC0 := Aside0.mk hc0
 clear hr0 hc0
 have HR1 := Aside0.mk hr1
 have HC1 := Aside0.mk hc1
 clear hr1 hc1
 have HB := Aside0.mk (Below.refl w.heap.size w)
 have H : (if (l0.length : Int) = (l1.length : Int) then (laws_eqLotS.l0 k l0 l1 0) else (some false)) = some r := h
 clear h
 by_cases c3 : (l0.length : Int) = (l1.length : Int)
 ·
  rw [if_pos c3] at H
  have c3b0 : ((l0.length : Int) == (l1.length : Int)) = true := beq_iff_eq.mpr c3
  have c3b1 : ((l0.length : Int) != (l1.length : Int)) = false := bne_eq_false_iff_eq.mpr c3
  have c3b2 : (l0.length == l1.length) = true := by first | simpa using c3 | (simp at c3 ⊢; omega)
  clear c3
  have H' := Aside0.mk H
  clear H
  go_enter Try.func18, Try.ntmps18
  go_wp2
  go_loopg [5] k (fun kq v5 w' => ∃ (x5_1 : Int), v5 = .int .i64 x5_1 ∧ Aside0 (laws_eqLotS.l0 kq l0 l1 x5_1 = some r) ∧ Aside0 (kq ≤ k) ∧ Aside0 (Below w.heap.size w w'))
  case atStart => exact ⟨(0), (by first | rfl | (simp; done) | (simp [*]; done)), H', ⟨Nat.le_refl _⟩, ⟨bb_⟩⟩
  case round =>
   clear H'
   try clear c1
   try clear p2
   try clear c3b0
   try clear c3b1
   try clear c3b2
   obtain ⟨x5_1, rfl, HA, HK1, HB⟩ := hrel
   cases gk with
   | zero => exact absurd HA.out (by simp [laws_eqLotS.l0])
   | succ k1 =>
    have H := HA.out
    clear HA
    simp only [laws_eqLotS.l0] at H
    by_cases c4 : x5_1 < (l0.length : Int)
    ·
     rw [if_pos c4] at H
     have c4b0 : decide (x5_1 < (l0.length : Int)) = true := decide_eq_true c4
     clear c4
     by_cases c5 : 0 ≤ x5_1
     ·
      rw [if_pos c5] at H
      have c5b0 : decide (0 ≤ x5_1) = true := decide_eq_true c5
      clear c5
      by_cases c6 : x5_1 < (l1.length : Int)
      ·
       rw [if_pos c6] at H
       have c6b0 : decide (x5_1 < (l1.length : Int)) = true := decide_eq_true c6
       clear c6
       replace H := Option.bind_eq_some_iff.mp H
       obtain ⟨t159, A70, H⟩ := H
       have A7 := Aside0.mk A70
       clear A70
       by_cases c8 : t159 = true
       ·
        subst c8
        have H1 := Eq.trans (if_pos rfl).symm H
        clear H
        have H := H1
        clear H1
        have H' := Aside0.mk H
        clear H
        try go_wp2
        have n0_ := Aside0.mk (below_drew1 HB.out)
        clear HB
        have HB := n0_
        clear n0_
        have p157 : 0 ≤ (x5_1 : Int) := od_
        have q157 : x5_1 < (l0.length : Int) := od_
        obtain ⟨ad157, e157, hx157_0, hx157_1, hx157_2, hx157_3, hx157_4⟩ := at_T37 HR0.out x5_1 p157 q157
        have hw157_4 := hx157_4
        have hw157_3 := hx157_3
        have hw157_2 := hx157_2
        have hw157_1 := hx157_1
        have hw157_0 := hx157_0
        cases e157
        replace hx157_0 := cl_ HB.out hx157_0
        replace hx157_1 := cl_ HB.out hx157_1
        replace hx157_2 := cl_ HB.out hx157_2
        replace hx157_3 := cl_ HB.out hx157_3
        replace hx157_4 := cl_ HB.out hx157_4
        replace p157 := eq_true p157
        replace q157 := eq_true q157
        have p158 : 0 ≤ (x5_1 : Int) := od_
        have q158 : x5_1 < (l1.length : Int) := od_
        obtain ⟨ad158, e158, hx158_0, hx158_1, hx158_2, hx158_3, hx158_4⟩ := at_T37 HR1.out x5_1 p158 q158
        have hw158_4 := hx158_4
        have hw158_3 := hx158_3
        have hw158_2 := hx158_2
        have hw158_1 := hx158_1
        have hw158_0 := hx158_0
        cases e158
        replace hx158_0 := cl_ HB.out hx158_0
        replace hx158_1 := cl_ HB.out hx158_1
        replace hx158_2 := cl_ HB.out hx158_2
        replace hx158_3 := cl_ HB.out hx158_3
        replace hx158_4 := cl_ HB.out hx158_4
        replace p158 := eq_true p158
        replace q158 := eq_true q158
        refine start_ (n := 10) (S := fun w' => w'.cell? (ad157.add ((x5_1).toNat * 5)) = some (.int .i64 ((rd_T37 l0 x5_1).f0)) ∧ w'.cell? ⟨(ad157.add ((x5_1).toNat * 5)).block, (ad157.add ((x5_1).toNat * 5)).off + 1, none⟩ = some (.int .i64 ((rd_T37 l0 x5_1).f1)) ∧ w'.cell? ⟨(ad157.add ((x5_1).toNat * 5)).block, (ad157.add ((x5_1).toNat * 5)).off + 2, none⟩ = some (.int .i64 ((rd_T37 l0 x5_1).f2)) ∧ w'.cell? ⟨(ad157.add ((x5_1).toNat * 5)).block, (ad157.add ((x5_1).toNat * 5)).off + 3, none⟩ = some (.int .i64 ((rd_T37 l0 x5_1).f3)) ∧ w'.cell? ⟨(ad157.add ((x5_1).toNat * 5)).block, (ad157.add ((x5_1).toNat * 5)).off + 4, none⟩ = some (.int .i64 ((rd_T37 l0 x5_1).f4)) ∧ w'.cell? (ad158.add ((x5_1).toNat * 5)) = some (.int .i64 ((rd_T37 l1 x5_1).f0)) ∧ w'.cell? ⟨(ad158.add ((x5_1).toNat * 5)).block, (ad158.add ((x5_1).toNat * 5)).off + 1, none⟩ = some (.int .i64 ((rd_T37 l1 x5_1).f1)) ∧ w'.cell? ⟨(ad158.add ((x5_1).toNat * 5)).block, (ad158.add ((x5_1).toNat * 5)).off + 2, none⟩ = some (.int .i64 ((rd_T37 l1 x5_1).f2)) ∧ w'.cell? ⟨(ad158.add ((x5_1).toNat * 5)).block, (ad158.add ((x5_1).toNat * 5)).off + 3, none⟩ = some (.int .i64 ((rd_T37 l1 x5_1).f3)) ∧ w'.cell? ⟨(ad158.add ((x5_1).toNat * 5)).block, (ad158.add ((x5_1).toNat * 5)).off + 4, none⟩ = some (.int .i64 ((rd_T37 l1 x5_1).f4))) (ds := []) (ba_ 10 0) kr_ rfl rfl ⟨((HB.out.cell (World.block_lt_of_cell? w _ hw157_0)).trans hw157_0), ((HB.out.cell (World.block_lt_of_cell? w _ hw157_1)).trans hw157_1), ((HB.out.cell (World.block_lt_of_cell? w _ hw157_2)).trans hw157_2), ((HB.out.cell (World.block_lt_of_cell? w _ hw157_3)).trans hw157_3), ((HB.out.cell (World.block_lt_of_cell? w _ hw157_4)).trans hw157_4), ((HB.out.cell (World.block_lt_of_cell? w _ hw158_0)).trans hw158_0), ((HB.out.cell (World.block_lt_of_cell? w _ hw158_1)).trans hw158_1), ((HB.out.cell (World.block_lt_of_cell? w _ hw158_2)).trans hw158_2), ((HB.out.cell (World.block_lt_of_cell? w _ hw158_3)).trans hw158_3), ((HB.out.cell (World.block_lt_of_cell? w _ hw158_4)).trans hw158_4)⟩ (fun hHeld => ?_); refine with_tabW laws_eqLotS.tab6 laws_eqLotS.bits6 (fun HT_ HW_ => ?_)
        generalize wr.drew = w9 at HB hx157_0 hx157_1 hx157_2 hx157_3 hx157_4 hx158_0 hx158_1 hx158_2 hx158_3 hx158_4 hHeld ⊢
        refine pu_ 0 17 HT_.out (ba_ 10 1) ?_
        refine pu_ 1 18 HT_.out (ba_ 10 3) ?_
        refine pu_ 2 19 HT_.out (ba_ 10 7) ?_
        refine pu_ 4 21 HT_.out (ba_ 10 23) ?_
        refine pu_ 5 22 HT_.out (ba_ 10 55) ?_
        refine pu_ 6 23 HT_.out (ba_ 10 119) ?_
        refine ta_ 3 20 HT_.out HW_.out hHeld (ba_ 10 127) ?_
        refine ta_ 7 24 HT_.out HW_.out hHeld (ba_ 10 255) ?_
        refine one_ (i := 8) (N := some 25) (ba_ 10 511) rfl rfl (one_of HT_.out kr_) (by decide) (fun K hK => ?_)
        refine goes_ Try.func49 kr_ rfl #[.agg #[.int .i64 ((rd_T37 l0 x5_1).f0), .int .i64 ((rd_T37 l0 x5_1).f1), .int .i64 ((rd_T37 l0 x5_1).f2), .int .i64 ((rd_T37 l0 x5_1).f3), .int .i64 ((rd_T37 l0 x5_1).f4)], .agg #[.int .i64 ((rd_T37 l1 x5_1).f0), .int .i64 ((rd_T37 l1 x5_1).f1), .int .i64 ((rd_T37 l1 x5_1).f2), .int .i64 ((rd_T37 l1 x5_1).f3), .int .i64 ((rd_T37 l1 x5_1).f4)]] (by rfl) rfl rfl (bc_) ?_
        with_reducible refine (laws_eqLot.calls ((rd_T37 l0 x5_1).f0) ((rd_T37 l0 x5_1).f1) ((rd_T37 l0 x5_1).f2) ((rd_T37 l0 x5_1).f3) ((rd_T37 l0 x5_1).f4) ((rd_T37 l1 x5_1).f0) ((rd_T37 l1 x5_1).f1) ((rd_T37 l1 x5_1).f2) ((rd_T37 l1 x5_1).f3) ((rd_T37 l1 x5_1).f4) true _ A7.out).mono ?_
        rintro e w10 ⟨rfl, hb⟩
        refine ⟨_, rfl, ?_⟩
        have n0_ := Aside0.mk (below_step (bb_) hb)
        clear HB
        have HB := n0_
        clear n0_
        (try clear hb)
        (try clear hb2)
        (try clear hk)
        (try clear hi)
        refine hK.out _ _ ⟨((HB.out.cell (World.block_lt_of_cell? w _ hw157_0)).trans hw157_0), ((HB.out.cell (World.block_lt_of_cell? w _ hw157_1)).trans hw157_1), ((HB.out.cell (World.block_lt_of_cell? w _ hw157_2)).trans hw157_2), ((HB.out.cell (World.block_lt_of_cell? w _ hw157_3)).trans hw157_3), ((HB.out.cell (World.block_lt_of_cell? w _ hw157_4)).trans hw157_4), ((HB.out.cell (World.block_lt_of_cell? w _ hw158_0)).trans hw158_0), ((HB.out.cell (World.block_lt_of_cell? w _ hw158_1)).trans hw158_1), ((HB.out.cell (World.block_lt_of_cell? w _ hw158_2)).trans hw158_2), ((HB.out.cell (World.block_lt_of_cell? w _ hw158_3)).trans hw158_3), ((HB.out.cell (World.block_lt_of_cell? w _ hw158_4)).trans hw158_4)⟩ (fun hHeld => ?_)
        clear hK K
        refine norm_ (a' := ?_) ?_ ?_
        rotate_left
        ·
         show Act.put _ (some 25) _ = _
         exact sp_
        refine pu_ 9 26 HT_.out (ba_ 10 1023) ?_
        refine done_ (done_of HT_.out kr_) ?_
        try go_wp2
        go_roundg k1
        case measure => have := HK1.out; omega
        case rel => exact ⟨(wrap64 (x5_1 + 1)), (by first | rfl | (simp; done) | (simp [*]; done)), H', ⟨by have := HK1.out; omega⟩, ⟨bb_⟩⟩
       ·
        replace c8 := Bool.eq_false_iff.mpr c8
        subst c8
        have H1 := Eq.trans (if_neg nf_).symm H
        clear H
        have H := H1
        clear H1
        obtain rfl := Option.some.inj H
        try go_wp2
        have n0_ := Aside0.mk (below_drew1 HB.out)
        clear HB
        have HB := n0_
        clear n0_
        have p157 : 0 ≤ (x5_1 : Int) := od_
        have q157 : x5_1 < (l0.length : Int) := od_
        obtain ⟨ad157, e157, hx157_0, hx157_1, hx157_2, hx157_3, hx157_4⟩ := at_T37 HR0.out x5_1 p157 q157
        have hw157_4 := hx157_4
        have hw157_3 := hx157_3
        have hw157_2 := hx157_2
        have hw157_1 := hx157_1
        have hw157_0 := hx157_0
        cases e157
        replace hx157_0 := cl_ HB.out hx157_0
        replace hx157_1 := cl_ HB.out hx157_1
        replace hx157_2 := cl_ HB.out hx157_2
        replace hx157_3 := cl_ HB.out hx157_3
        replace hx157_4 := cl_ HB.out hx157_4
        replace p157 := eq_true p157
        replace q157 := eq_true q157
        have p158 : 0 ≤ (x5_1 : Int) := od_
        have q158 : x5_1 < (l1.length : Int) := od_
        obtain ⟨ad158, e158, hx158_0, hx158_1, hx158_2, hx158_3, hx158_4⟩ := at_T37 HR1.out x5_1 p158 q158
        have hw158_4 := hx158_4
        have hw158_3 := hx158_3
        have hw158_2 := hx158_2
        have hw158_1 := hx158_1
        have hw158_0 := hx158_0
        cases e158
        replace hx158_0 := cl_ HB.out hx158_0
        replace hx158_1 := cl_ HB.out hx158_1
        replace hx158_2 := cl_ HB.out hx158_2
        replace hx158_3 := cl_ HB.out hx158_3
        replace hx158_4 := cl_ HB.out hx158_4
        replace p158 := eq_true p158
        replace q158 := eq_true q158
        refine start_ (n := 10) (S := fun w' => w'.cell? (ad157.add ((x5_1).toNat * 5)) = some (.int .i64 ((rd_T37 l0 x5_1).f0)) ∧ w'.cell? ⟨(ad157.add ((x5_1).toNat * 5)).block, (ad157.add ((x5_1).toNat * 5)).off + 1, none⟩ = some (.int .i64 ((rd_T37 l0 x5_1).f1)) ∧ w'.cell? ⟨(ad157.add ((x5_1).toNat * 5)).block, (ad157.add ((x5_1).toNat * 5)).off + 2, none⟩ = some (.int .i64 ((rd_T37 l0 x5_1).f2)) ∧ w'.cell? ⟨(ad157.add ((x5_1).toNat * 5)).block, (ad157.add ((x5_1).toNat * 5)).off + 3, none⟩ = some (.int .i64 ((rd_T37 l0 x5_1).f3)) ∧ w'.cell? ⟨(ad157.add ((x5_1).toNat * 5)).block, (ad157.add ((x5_1).toNat * 5)).off + 4, none⟩ = some (.int .i64 ((rd_T37 l0 x5_1).f4)) ∧ w'.cell? (ad158.add ((x5_1).toNat * 5)) = some (.int .i64 ((rd_T37 l1 x5_1).f0)) ∧ w'.cell? ⟨(ad158.add ((x5_1).toNat * 5)).block, (ad158.add ((x5_1).toNat * 5)).off + 1, none⟩ = some (.int .i64 ((rd_T37 l1 x5_1).f1)) ∧ w'.cell? ⟨(ad158.add ((x5_1).toNat * 5)).block, (ad158.add ((x5_1).toNat * 5)).off + 2, none⟩ = some (.int .i64 ((rd_T37 l1 x5_1).f2)) ∧ w'.cell? ⟨(ad158.add ((x5_1).toNat * 5)).block, (ad158.add ((x5_1).toNat * 5)).off + 3, none⟩ = some (.int .i64 ((rd_T37 l1 x5_1).f3)) ∧ w'.cell? ⟨(ad158.add ((x5_1).toNat * 5)).block, (ad158.add ((x5_1).toNat * 5)).off + 4, none⟩ = some (.int .i64 ((rd_T37 l1 x5_1).f4))) (ds := []) (ba_ 10 0) kr_ rfl rfl ⟨((HB.out.cell (World.block_lt_of_cell? w _ hw157_0)).trans hw157_0), ((HB.out.cell (World.block_lt_of_cell? w _ hw157_1)).trans hw157_1), ((HB.out.cell (World.block_lt_of_cell? w _ hw157_2)).trans hw157_2), ((HB.out.cell (World.block_lt_of_cell? w _ hw157_3)).trans hw157_3), ((HB.out.cell (World.block_lt_of_cell? w _ hw157_4)).trans hw157_4), ((HB.out.cell (World.block_lt_of_cell? w _ hw158_0)).trans hw158_0), ((HB.out.cell (World.block_lt_of_cell? w _ hw158_1)).trans hw158_1), ((HB.out.cell (World.block_lt_of_cell? w _ hw158_2)).trans hw158_2), ((HB.out.cell (World.block_lt_of_cell? w _ hw158_3)).trans hw158_3), ((HB.out.cell (World.block_lt_of_cell? w _ hw158_4)).trans hw158_4)⟩ (fun hHeld => ?_); refine with_tabW laws_eqLotS.tab6 laws_eqLotS.bits6 (fun HT_ HW_ => ?_)
        generalize wr.drew = w11 at HB hx157_0 hx157_1 hx157_2 hx157_3 hx157_4 hx158_0 hx158_1 hx158_2 hx158_3 hx158_4 hHeld ⊢
        refine pu_ 0 17 HT_.out (ba_ 10 1) ?_
        refine pu_ 1 18 HT_.out (ba_ 10 3) ?_
        refine pu_ 2 19 HT_.out (ba_ 10 7) ?_
        refine pu_ 4 21 HT_.out (ba_ 10 23) ?_
        refine pu_ 5 22 HT_.out (ba_ 10 55) ?_
        refine pu_ 6 23 HT_.out (ba_ 10 119) ?_
        refine ta_ 3 20 HT_.out HW_.out hHeld (ba_ 10 127) ?_
        refine ta_ 7 24 HT_.out HW_.out hHeld (ba_ 10 255) ?_
        refine one_ (i := 8) (N := some 25) (ba_ 10 511) rfl rfl (one_of HT_.out kr_) (by decide) (fun K hK => ?_)
        refine goes_ Try.func49 kr_ rfl #[.agg #[.int .i64 ((rd_T37 l0 x5_1).f0), .int .i64 ((rd_T37 l0 x5_1).f1), .int .i64 ((rd_T37 l0 x5_1).f2), .int .i64 ((rd_T37 l0 x5_1).f3), .int .i64 ((rd_T37 l0 x5_1).f4)], .agg #[.int .i64 ((rd_T37 l1 x5_1).f0), .int .i64 ((rd_T37 l1 x5_1).f1), .int .i64 ((rd_T37 l1 x5_1).f2), .int .i64 ((rd_T37 l1 x5_1).f3), .int .i64 ((rd_T37 l1 x5_1).f4)]] (by rfl) rfl rfl (bc_) ?_
        with_reducible refine (laws_eqLot.calls ((rd_T37 l0 x5_1).f0) ((rd_T37 l0 x5_1).f1) ((rd_T37 l0 x5_1).f2) ((rd_T37 l0 x5_1).f3) ((rd_T37 l0 x5_1).f4) ((rd_T37 l1 x5_1).f0) ((rd_T37 l1 x5_1).f1) ((rd_T37 l1 x5_1).f2) ((rd_T37 l1 x5_1).f3) ((rd_T37 l1 x5_1).f4) false _ A7.out).mono ?_
        rintro e w12 ⟨rfl, hb⟩
        refine ⟨_, rfl, ?_⟩
        have n0_ := Aside0.mk (below_step (bb_) hb)
        clear HB
        have HB := n0_
        clear n0_
        (try clear hb)
        (try clear hb2)
        (try clear hk)
        (try clear hi)
        refine hK.out _ _ ⟨((HB.out.cell (World.block_lt_of_cell? w _ hw157_0)).trans hw157_0), ((HB.out.cell (World.block_lt_of_cell? w _ hw157_1)).trans hw157_1), ((HB.out.cell (World.block_lt_of_cell? w _ hw157_2)).trans hw157_2), ((HB.out.cell (World.block_lt_of_cell? w _ hw157_3)).trans hw157_3), ((HB.out.cell (World.block_lt_of_cell? w _ hw157_4)).trans hw157_4), ((HB.out.cell (World.block_lt_of_cell? w _ hw158_0)).trans hw158_0), ((HB.out.cell (World.block_lt_of_cell? w _ hw158_1)).trans hw158_1), ((HB.out.cell (World.block_lt_of_cell? w _ hw158_2)).trans hw158_2), ((HB.out.cell (World.block_lt_of_cell? w _ hw158_3)).trans hw158_3), ((HB.out.cell (World.block_lt_of_cell? w _ hw158_4)).trans hw158_4)⟩ (fun hHeld => ?_)
        clear hK K
        refine norm_ (a' := ?_) ?_ ?_
        rotate_left
        ·
         show Act.put _ (some 25) _ = _
         exact sp_
        refine pu_ 9 26 HT_.out (ba_ 10 1023) ?_
        refine done_ (done_of HT_.out kr_) ?_
        try go_wp2
        go_ret
        exact ⟨er_, bb_⟩
      ·
       rw [if_neg c6] at H
       exact absurd H (by simp)
     ·
      rw [if_neg c5] at H
      exact absurd H (by simp)
    ·
     rw [if_neg c4] at H
     have c4b0 : decide (x5_1 < (l0.length : Int)) = false := decide_eq_false c4
     clear c4
     obtain rfl := Option.some.inj H
     go_wp2
     go_ret
     exact ⟨er_, bb_⟩
 ·
  rw [if_neg c3] at H
  have c3b0 : ((l0.length : Int) == (l1.length : Int)) = false := beq_eq_false_iff_ne.mpr c3
  have c3b1 : ((l0.length : Int) != (l1.length : Int)) = true := bne_iff_ne.mpr c3
  have c3b2 : (l0.length == l1.length) = false := by first | simpa using c3 | (simp at c3 ⊢; omega)
  obtain rfl := Option.some.inj H
  go_enter Try.func18, Try.ntmps18
  go_wp2
  go_ret
  exact ⟨er_, bb_⟩
def spec_l5Split.l0 : Nat → List (S37) → Int → Int → List (S37) → List (S37) → Int → Option ((List (S37)) × (List (S37)))
 | 0, _, _, _, _, _, _ => none
 | k + 1, x0, x1, x2, x8, x9, x10 => if x10 < (x0.length : Int) then (if 0 ≤ x10 then (if ((rd_T37 x0 x10).f0) = x1 then (if ((rd_T37 x0 x10).f1) = x2 then (if x8.length < 3518437208883 then (spec_l5Split.l0 k x0 x1 x2 (x8 ++ [(⟨(rd_T37 x0 x10).f0, (rd_T37 x0 x10).f1, (rd_T37 x0 x10).f2, (rd_T37 x0 x10).f3, (rd_T37 x0 x10).f4⟩ : S37)]) x9 (wrap64 (x10 + 1))) else (none)) else (if x9.length < 3518437208883 then (spec_l5Split.l0 k x0 x1 x2 x8 (x9 ++ [(⟨(rd_T37 x0 x10).f0, (rd_T37 x0 x10).f1, (rd_T37 x0 x10).f2, (rd_T37 x0 x10).f3, (rd_T37 x0 x10).f4⟩ : S37)]) (wrap64 (x10 + 1))) else (none))) else (if x9.length < 3518437208883 then (spec_l5Split.l0 k x0 x1 x2 x8 (x9 ++ [(⟨(rd_T37 x0 x10).f0, (rd_T37 x0 x10).f1, (rd_T37 x0 x10).f2, (rd_T37 x0 x10).f3, (rd_T37 x0 x10).f4⟩ : S37)]) (wrap64 (x10 + 1))) else (none))) else (none)) else (some (x8, x9))
def spec_l5Split.f (k : Nat) (l0 : List (S37)) (a1 : Int) (a2 : Int) : Option ((List (S37)) × (List (S37))) := spec_l5Split.l0 k l0 a1 a2 (([] : List (S37))) (([] : List (S37))) 0
set_option maxHeartbeats 8000000 in
set_option maxRecDepth 100000 in
theorem spec_l5Split.calls (k : Nat) (A0 : Option Addr) (c0 : Nat) (l0 : List (S37)) (a1 : Int) (a2 : Int) (r1 : List (S37)) (r2 : List (S37)) (w : World) (hr0 : Kd.C k37 w A0 l0.length l0) (hc0 : l0.length ≤ c0) (h : spec_l5Split.f k l0 a1 a2 = some (r1, r2)) :
 Calls Try.prog 52 #[.slice A0 l0.length c0, .int .i64 a1, .int .i64 a2] w fun e w' => ∃ v0_ v1_ : Value, e = .returned (.tuple #[v0_, v1_]) ∧ Kd.R k37 37 w' w.heap.size (fun k_ => some k_ ≠ (v1_ : Value).ownBlock) v0_ r1 ∧ Kd.R k37 37 w' w.heap.size (fun k_ => some k_ ≠ (v0_ : Value).ownBlock) v1_ r2 ∧ Below w.heap.size w w' := by
 have hu37 := Try.underlying37
 have HR0 := Aside0.mk hr0
 have HC0 := Aside0.mk hc0
 clear hr0 hc0
 have HB := Aside0.mk (Below.refl w.heap.size w)
 have H : (spec_l5Split.l0 k l0 a1 a2 (([] : List (S37))) (([] : List (S37))) 0) = some (r1, r2) := h
 clear h
 obtain ⟨y173, hy173⟩ : ∃ y_ : List (S37), y_ = (([] : List (S37))) := ⟨_, rfl⟩
 replace H : (spec_l5Split.l0 k l0 a1 a2 y173 (([] : List (S37))) 0) = some (r1, r2) := rh_ hy173 H
 have Ny173 := Aside0.mk hy173
 clear hy173
 obtain ⟨y176, hy176⟩ : ∃ y_ : List (S37), y_ = (([] : List (S37))) := ⟨_, rfl⟩
 replace H : (spec_l5Split.l0 k l0 a1 a2 y173 y176 0) = some (r1, r2) := rh_ hy176 H
 have Ny176 := Aside0.mk hy176
 clear hy176
 have H' := Aside0.mk H
 clear H
 go_enter Try.func52, Try.ntmps52
 go_wp2_with (first | ((with_reducible refine gate_dst (N := 11) rfl ?_); refine Kd.R_lit k37 _ 37 ?hg (N := 11) ?hd (xs := ([] : List (S37))) (inner := []) (ok := fun _ => True) (okp := fun _ => True) ?hr ?hp (fun _ hk => hk) trivial (Below.refl _ _) (Nat.le_refl _) (by simp) ?_; (case hd => rfl); (case hg => rfl); (case hr => first | (go_simp; done) | (go_simp; rfl)); (case hp => exact (Reps.none _ _)); intro v174 w4 ho5 hb hg_ hnew_; clear hg_ hnew_; (first | rw [← Ny173.out] at ho5 | (simp only [Int.reduceToNat] at ho5; rw [← Ny173.out] at ho5)); have n0_ := Aside0.mk (Kd.R_lower ho5 (below_size (bb_))); have n1_ := Aside0.mk (below_step (bb_) hb); clear HB; have HO175 := n0_; have HB := n1_; clear n0_ n1_; clear hb ho5) | ((with_reducible refine gate_dst (N := 12) rfl ?_); refine Kd.R_lit k37 _ 37 ?hg (N := 12) ?hd (xs := ([] : List (S37))) (inner := []) (ok := fun _ => True) (okp := fun _ => True) ?hr ?hp (fun _ hk => hk) trivial (Below.refl _ _) (Nat.le_refl _) (by simp) ?_; (case hd => rfl); (case hg => rfl); (case hr => first | (go_simp; done) | (go_simp; rfl)); (case hp => exact (Reps.none _ _)); intro v177 w6 ho7 hb hg_ hnew_; clear hg_ hnew_; (first | rw [← Ny176.out] at ho7 | (simp only [Int.reduceToNat] at ho7; rw [← Ny176.out] at ho7)); have n0_ := Aside0.mk (Kd.R_elder' (pe_ HO175.out) (Kd.R_base ho7) hb); have n1_ := Aside0.mk (Kd.R_lower (Kd.R_new' ho7 (Kd.R_lt (pe_ HO175.out))) (below_size (bb_))); have n2_ := Aside0.mk (below_step (bb_) hb); clear HO175; clear HB; have HO175 := n0_; have HO178 := n1_; have HB := n2_; clear n0_ n1_ n2_; clear hb ho7))
 go_loopg [8, 9, 10] k (fun kq v8 v9 v10 w' => ∃ (x8_1 : List (S37)) (x9_1 : List (S37)) (x10_1 : Int), v10 = .int .i64 x10_1 ∧ Aside0 (spec_l5Split.l0 kq l0 a1 a2 x8_1 x9_1 x10_1 = some (r1, r2)) ∧ Aside0 (kq ≤ k) ∧ Aside0 (Kd.R k37 37 w' w.heap.size (fun k_ => some k_ ≠ (v9 : Value).ownBlock) v8 x8_1) ∧ Aside0 (Kd.R k37 37 w' w.heap.size (fun k_ => some k_ ≠ (v8 : Value).ownBlock) v9 x9_1) ∧ Aside0 (Below w.heap.size w w'))
 case atStart => exact ⟨(y173), (y176), (0), (by first | rfl | (simp; done) | (simp [*]; done)), H', ⟨Nat.le_refl _⟩, ⟨by (with_reducible repeat (first | apply Kd.R_alloc | apply Kd.R_drewN | apply Kd.R_drew)); exact Kd.R_mono HO175.out (fun _ hk => hk.2)⟩, ⟨by (with_reducible repeat (first | apply Kd.R_alloc | apply Kd.R_drewN | apply Kd.R_drew)); exact Kd.R_mono HO178.out (fun _ hk => hk.2)⟩, ⟨bb_⟩⟩
 case round =>
  clear H'
  try clear p2
  try clear c5
  obtain ⟨x8_1, x9_1, x10_1, rfl, HA, HK1, HO_8, HO_9, HB⟩ := hrel
  cases gk with
  | zero => exact absurd HA.out (by simp [spec_l5Split.l0])
  | succ k1 =>
   have H := HA.out
   clear HA
   simp only [spec_l5Split.l0] at H
   by_cases c8 : x10_1 < (l0.length : Int)
   ·
    rw [if_pos c8] at H
    have c8b0 : decide (x10_1 < (l0.length : Int)) = true := decide_eq_true c8
    clear c8
    by_cases c9 : 0 ≤ x10_1
    ·
     rw [if_pos c9] at H
     have c9b0 : decide (0 ≤ x10_1) = true := decide_eq_true c9
     clear c9
     by_cases c10 : ((rd_T37 l0 x10_1).f0) = a1
     ·
      rw [if_pos c10] at H
      have c10b0 : (((rd_T37 l0 x10_1).f0) == a1) = true := beq_iff_eq.mpr c10
      have c10b1 : (((rd_T37 l0 x10_1).f0) != a1) = false := bne_eq_false_iff_eq.mpr c10
      clear c10
      by_cases c11 : ((rd_T37 l0 x10_1).f1) = a2
      ·
       rw [if_pos c11] at H
       have c11b0 : (((rd_T37 l0 x10_1).f1) == a2) = true := beq_iff_eq.mpr c11
       have c11b1 : (((rd_T37 l0 x10_1).f1) != a2) = false := bne_eq_false_iff_eq.mpr c11
       clear c11
       by_cases c12 : x8_1.length < 3518437208883
       ·
        rw [if_pos c12] at H
        have LMc12 := Aside0.mk c12
        clear c12
        obtain ⟨y182, hy182⟩ : ∃ y_ : List (S37), y_ = (x8_1 ++ [(⟨(rd_T37 l0 x10_1).f0, (rd_T37 l0 x10_1).f1, (rd_T37 l0 x10_1).f2, (rd_T37 l0 x10_1).f3, (rd_T37 l0 x10_1).f4⟩ : S37)]) := ⟨_, rfl⟩
        replace H : (spec_l5Split.l0 k1 l0 a1 a2 y182 x9_1 (wrap64 (x10_1 + 1))) = some (r1, r2) := rh_ hy182 H
        have Ny182 := Aside0.mk hy182
        clear hy182
        have H' := Aside0.mk H
        clear H
        have p179 : 0 ≤ (x10_1 : Int) := od_
        have q179 : x10_1 < (l0.length : Int) := od_
        obtain ⟨ad179, e179, hx179_0, hx179_1, hx179_2, hx179_3, hx179_4⟩ := at_T37 HR0.out x10_1 p179 q179
        cases e179
        replace hx179_0 := cl_ HB.out hx179_0
        replace hx179_1 := cl_ HB.out hx179_1
        replace hx179_2 := cl_ HB.out hx179_2
        replace hx179_3 := cl_ HB.out hx179_3
        replace hx179_4 := cl_ HB.out hx179_4
        replace p179 := eq_true p179
        replace q179 := eq_true q179
        have p180 : 0 ≤ (x10_1 : Int) := od_
        have q180 : x10_1 < (l0.length : Int) := od_
        obtain ⟨ad180, e180, hx180_0, hx180_1, hx180_2, hx180_3, hx180_4⟩ := at_T37 HR0.out x10_1 p180 q180
        obtain rfl : ad179 = ad180 := (by injection e180)
        replace hx180_0 := cl_ HB.out hx180_0
        replace hx180_1 := cl_ HB.out hx180_1
        replace hx180_2 := cl_ HB.out hx180_2
        replace hx180_3 := cl_ HB.out hx180_3
        replace hx180_4 := cl_ HB.out hx180_4
        replace p180 := eq_true p180
        replace q180 := eq_true q180
        have p181 : 0 ≤ (x10_1 : Int) := od_
        have q181 : x10_1 < (l0.length : Int) := od_
        obtain ⟨ad181, e181, hx181_0, hx181_1, hx181_2, hx181_3, hx181_4⟩ := at_T37 HR0.out x10_1 p181 q181
        obtain rfl : ad179 = ad181 := (by injection e181)
        replace hx181_0 := cl_ HB.out hx181_0
        replace hx181_1 := cl_ HB.out hx181_1
        replace hx181_2 := cl_ HB.out hx181_2
        replace hx181_3 := cl_ HB.out hx181_3
        replace hx181_4 := cl_ HB.out hx181_4
        replace p181 := eq_true p181
        replace q181 := eq_true q181
        go_wp2_with (first | ((with_reducible refine gate_builtin (b := .append) (xs := #[.tmp 35, .tmp 40]) rfl ?_); at_builtin; refine Kd.R_append k37 (w0 := w) w.heap.size rfl (.tmp 35) (.tmp 40) 25 37 (.agg #[(.int .i64 0), (.int .i64 0), (.int .i64 0), (.int .i64 0), (.int .i64 0)]) 40 rfl Try.underlying25 info37 rfl (by decide) (by omega) u8 x8_1 (⟨(rd_T37 l0 x10_1).f0, (rd_T37 l0 x10_1).f1, (rd_T37 l0 x10_1).f2, (rd_T37 l0 x10_1).f3, (rd_T37 l0 x10_1).f4⟩ : S37) [.int .i64 ((rd_T37 l0 x10_1).f0), .int .i64 ((rd_T37 l0 x10_1).f1), .int .i64 ((rd_T37 l0 x10_1).f2), .int .i64 ((rd_T37 l0 x10_1).f3), .int .i64 ((rd_T37 l0 x10_1).f4)] (fun k_ => some k_ ≠ (u9 : Value).ownBlock) (fun _ => False) rfl rfl ?aP (fun _ hk => hk.elim) ?aF ?aO ?aB ?aS ?aL ?_; (case aP => exact k37_mkM _ _ _ (⟨(rd_T37 l0 x10_1).f0, (rd_T37 l0 x10_1).f1, (rd_T37 l0 x10_1).f2, (rd_T37 l0 x10_1).f3, (rd_T37 l0 x10_1).f4⟩ : S37)); (case aB => exact (bb_)); (case aF => exact (fun k_ hk => Kd.fresh' (Kd.R_lt (pe_ HO_9.out)) k_ hk)); (case aO => exact (pe_ HO_8.out)); (case aS => exact (below_size (bb_))); (case aL => have := LMc12.out; omega); intro v183 w13 ho hb hg hat; rw [← Ny182.out] at ho; have n0_ := Aside0.mk (Kd.R_after (ok := (fun _ => True)) (by (with_reducible repeat (first | apply Kd.R_alloc | apply Kd.R_drewN | apply Kd.R_drew)); exact Kd.R_mono HO_9.out (fun _ hk => ⟨trivial, hk⟩)) hg hat); have n1_ := Aside0.mk (hb); have n2_ := Aside0.mk (ho); clear HO_9; clear HB; clear HO_8; have HO_9 := n0_; have HB := n1_; have HO184 := n2_; clear n0_ n1_ n2_; clear ho hb hg hat))
        go_roundg k1
        case measure => have := HK1.out; omega
        case rel => exact ⟨(y182), (x9_1), (wrap64 (x10_1 + 1)), (by first | rfl | (simp; done) | (simp [*]; done)), H', ⟨by have := HK1.out; omega⟩, ⟨by (with_reducible repeat (first | apply Kd.R_alloc | apply Kd.R_drewN | apply Kd.R_drew)); exact HO184.out⟩, ⟨by (with_reducible repeat (first | apply Kd.R_alloc | apply Kd.R_drewN | apply Kd.R_drew)); exact Kd.R_mono HO_9.out (fun _ hk => hk.2)⟩, ⟨bb_⟩⟩
       ·
        rw [if_neg c12] at H
        exact absurd H (by simp)
      ·
       rw [if_neg c11] at H
       have c11b0 : (((rd_T37 l0 x10_1).f1) == a2) = false := beq_eq_false_iff_ne.mpr c11
       have c11b1 : (((rd_T37 l0 x10_1).f1) != a2) = true := bne_iff_ne.mpr c11
       by_cases c14 : x9_1.length < 3518437208883
       ·
        rw [if_pos c14] at H
        have LMc14 := Aside0.mk c14
        clear c14
        obtain ⟨y186, hy186⟩ : ∃ y_ : List (S37), y_ = (x9_1 ++ [(⟨(rd_T37 l0 x10_1).f0, (rd_T37 l0 x10_1).f1, (rd_T37 l0 x10_1).f2, (rd_T37 l0 x10_1).f3, (rd_T37 l0 x10_1).f4⟩ : S37)]) := ⟨_, rfl⟩
        replace H : (spec_l5Split.l0 k1 l0 a1 a2 x8_1 y186 (wrap64 (x10_1 + 1))) = some (r1, r2) := rh_ hy186 H
        have Ny186 := Aside0.mk hy186
        clear hy186
        have H' := Aside0.mk H
        clear H
        have p179 : 0 ≤ (x10_1 : Int) := od_
        have q179 : x10_1 < (l0.length : Int) := od_
        obtain ⟨ad179, e179, hx179_0, hx179_1, hx179_2, hx179_3, hx179_4⟩ := at_T37 HR0.out x10_1 p179 q179
        cases e179
        replace hx179_0 := cl_ HB.out hx179_0
        replace hx179_1 := cl_ HB.out hx179_1
        replace hx179_2 := cl_ HB.out hx179_2
        replace hx179_3 := cl_ HB.out hx179_3
        replace hx179_4 := cl_ HB.out hx179_4
        replace p179 := eq_true p179
        replace q179 := eq_true q179
        have p180 : 0 ≤ (x10_1 : Int) := od_
        have q180 : x10_1 < (l0.length : Int) := od_
        obtain ⟨ad180, e180, hx180_0, hx180_1, hx180_2, hx180_3, hx180_4⟩ := at_T37 HR0.out x10_1 p180 q180
        obtain rfl : ad179 = ad180 := (by injection e180)
        replace hx180_0 := cl_ HB.out hx180_0
        replace hx180_1 := cl_ HB.out hx180_1
        replace hx180_2 := cl_ HB.out hx180_2
        replace hx180_3 := cl_ HB.out hx180_3
        replace hx180_4 := cl_ HB.out hx180_4
        replace p180 := eq_true p180
        replace q180 := eq_true q180
        have p185 : 0 ≤ (x10_1 : Int) := od_
        have q185 : x10_1 < (l0.length : Int) := od_
        obtain ⟨ad185, e185, hx185_0, hx185_1, hx185_2, hx185_3, hx185_4⟩ := at_T37 HR0.out x10_1 p185 q185
        obtain rfl : ad179 = ad185 := (by injection e185)
        replace hx185_0 := cl_ HB.out hx185_0
        replace hx185_1 := cl_ HB.out hx185_1
        replace hx185_2 := cl_ HB.out hx185_2
        replace hx185_3 := cl_ HB.out hx185_3
        replace hx185_4 := cl_ HB.out hx185_4
        replace p185 := eq_true p185
        replace q185 := eq_true q185
        go_wp2_with (first | ((with_reducible refine gate_builtin (b := .append) (xs := #[.tmp 42, .tmp 47]) rfl ?_); at_builtin; refine Kd.R_append k37 (w0 := w) w.heap.size rfl (.tmp 42) (.tmp 47) 25 37 (.agg #[(.int .i64 0), (.int .i64 0), (.int .i64 0), (.int .i64 0), (.int .i64 0)]) 40 rfl Try.underlying25 info37 rfl (by decide) (by omega) u9 x9_1 (⟨(rd_T37 l0 x10_1).f0, (rd_T37 l0 x10_1).f1, (rd_T37 l0 x10_1).f2, (rd_T37 l0 x10_1).f3, (rd_T37 l0 x10_1).f4⟩ : S37) [.int .i64 ((rd_T37 l0 x10_1).f0), .int .i64 ((rd_T37 l0 x10_1).f1), .int .i64 ((rd_T37 l0 x10_1).f2), .int .i64 ((rd_T37 l0 x10_1).f3), .int .i64 ((rd_T37 l0 x10_1).f4)] (fun k_ => some k_ ≠ (u8 : Value).ownBlock) (fun _ => False) rfl rfl ?aP (fun _ hk => hk.elim) ?aF ?aO ?aB ?aS ?aL ?_; (case aP => exact k37_mkM _ _ _ (⟨(rd_T37 l0 x10_1).f0, (rd_T37 l0 x10_1).f1, (rd_T37 l0 x10_1).f2, (rd_T37 l0 x10_1).f3, (rd_T37 l0 x10_1).f4⟩ : S37)); (case aB => exact (bb_)); (case aF => exact (fun k_ hk => Kd.fresh' (Kd.R_lt (pe_ HO_8.out)) k_ hk)); (case aO => exact (pe_ HO_9.out)); (case aS => exact (below_size (bb_))); (case aL => have := LMc14.out; omega); intro v187 w15 ho hb hg hat; rw [← Ny186.out] at ho; have n0_ := Aside0.mk (Kd.R_after (ok := (fun _ => True)) (by (with_reducible repeat (first | apply Kd.R_alloc | apply Kd.R_drewN | apply Kd.R_drew)); exact Kd.R_mono HO_8.out (fun _ hk => ⟨trivial, hk⟩)) hg hat); have n1_ := Aside0.mk (hb); have n2_ := Aside0.mk (ho); clear HO_8; clear HB; clear HO_9; have HO_8 := n0_; have HB := n1_; have HO188 := n2_; clear n0_ n1_ n2_; clear ho hb hg hat))
        go_roundg k1
        case measure => have := HK1.out; omega
        case rel => exact ⟨(x8_1), (y186), (wrap64 (x10_1 + 1)), (by first | rfl | (simp; done) | (simp [*]; done)), H', ⟨by have := HK1.out; omega⟩, ⟨by (with_reducible repeat (first | apply Kd.R_alloc | apply Kd.R_drewN | apply Kd.R_drew)); exact Kd.R_mono HO_8.out (fun _ hk => hk.2)⟩, ⟨by (with_reducible repeat (first | apply Kd.R_alloc | apply Kd.R_drewN | apply Kd.R_drew)); exact HO188.out⟩, ⟨bb_⟩⟩
       ·
        rw [if_neg c14] at H
        exact absurd H (by simp)
     ·
      rw [if_neg c10] at H
      have c10b0 : (((rd_T37 l0 x10_1).f0) == a1) = false := beq_eq_false_iff_ne.mpr c10
      have c10b1 : (((rd_T37 l0 x10_1).f0) != a1) = true := bne_iff_ne.mpr c10
      by_cases c16 : x9_1.length < 3518437208883
      ·
       rw [if_pos c16] at H
       have LMc16 := Aside0.mk c16
       clear c16
       obtain ⟨y190, hy190⟩ : ∃ y_ : List (S37), y_ = (x9_1 ++ [(⟨(rd_T37 l0 x10_1).f0, (rd_T37 l0 x10_1).f1, (rd_T37 l0 x10_1).f2, (rd_T37 l0 x10_1).f3, (rd_T37 l0 x10_1).f4⟩ : S37)]) := ⟨_, rfl⟩
       replace H : (spec_l5Split.l0 k1 l0 a1 a2 x8_1 y190 (wrap64 (x10_1 + 1))) = some (r1, r2) := rh_ hy190 H
       have Ny190 := Aside0.mk hy190
       clear hy190
       have H' := Aside0.mk H
       clear H
       have p179 : 0 ≤ (x10_1 : Int) := od_
       have q179 : x10_1 < (l0.length : Int) := od_
       obtain ⟨ad179, e179, hx179_0, hx179_1, hx179_2, hx179_3, hx179_4⟩ := at_T37 HR0.out x10_1 p179 q179
       cases e179
       replace hx179_0 := cl_ HB.out hx179_0
       replace hx179_1 := cl_ HB.out hx179_1
       replace hx179_2 := cl_ HB.out hx179_2
       replace hx179_3 := cl_ HB.out hx179_3
       replace hx179_4 := cl_ HB.out hx179_4
       replace p179 := eq_true p179
       replace q179 := eq_true q179
       have p189 : 0 ≤ (x10_1 : Int) := od_
       have q189 : x10_1 < (l0.length : Int) := od_
       obtain ⟨ad189, e189, hx189_0, hx189_1, hx189_2, hx189_3, hx189_4⟩ := at_T37 HR0.out x10_1 p189 q189
       obtain rfl : ad179 = ad189 := (by injection e189)
       replace hx189_0 := cl_ HB.out hx189_0
       replace hx189_1 := cl_ HB.out hx189_1
       replace hx189_2 := cl_ HB.out hx189_2
       replace hx189_3 := cl_ HB.out hx189_3
       replace hx189_4 := cl_ HB.out hx189_4
       replace p189 := eq_true p189
       replace q189 := eq_true q189
       go_wp2_with (first | ((with_reducible refine gate_builtin (b := .append) (xs := #[.tmp 42, .tmp 47]) rfl ?_); at_builtin; refine Kd.R_append k37 (w0 := w) w.heap.size rfl (.tmp 42) (.tmp 47) 25 37 (.agg #[(.int .i64 0), (.int .i64 0), (.int .i64 0), (.int .i64 0), (.int .i64 0)]) 40 rfl Try.underlying25 info37 rfl (by decide) (by omega) u9 x9_1 (⟨(rd_T37 l0 x10_1).f0, (rd_T37 l0 x10_1).f1, (rd_T37 l0 x10_1).f2, (rd_T37 l0 x10_1).f3, (rd_T37 l0 x10_1).f4⟩ : S37) [.int .i64 ((rd_T37 l0 x10_1).f0), .int .i64 ((rd_T37 l0 x10_1).f1), .int .i64 ((rd_T37 l0 x10_1).f2), .int .i64 ((rd_T37 l0 x10_1).f3), .int .i64 ((rd_T37 l0 x10_1).f4)] (fun k_ => some k_ ≠ (u8 : Value).ownBlock) (fun _ => False) rfl rfl ?aP (fun _ hk => hk.elim) ?aF ?aO ?aB ?aS ?aL ?_; (case aP => exact k37_mkM _ _ _ (⟨(rd_T37 l0 x10_1).f0, (rd_T37 l0 x10_1).f1, (rd_T37 l0 x10_1).f2, (rd_T37 l0 x10_1).f3, (rd_T37 l0 x10_1).f4⟩ : S37)); (case aB => exact (bb_)); (case aF => exact (fun k_ hk => Kd.fresh' (Kd.R_lt (pe_ HO_8.out)) k_ hk)); (case aO => exact (pe_ HO_9.out)); (case aS => exact (below_size (bb_))); (case aL => have := LMc16.out; omega); intro v191 w17 ho hb hg hat; rw [← Ny190.out] at ho; have n0_ := Aside0.mk (Kd.R_after (ok := (fun _ => True)) (by (with_reducible repeat (first | apply Kd.R_alloc | apply Kd.R_drewN | apply Kd.R_drew)); exact Kd.R_mono HO_8.out (fun _ hk => ⟨trivial, hk⟩)) hg hat); have n1_ := Aside0.mk (hb); have n2_ := Aside0.mk (ho); clear HO_8; clear HB; clear HO_9; have HO_8 := n0_; have HB := n1_; have HO192 := n2_; clear n0_ n1_ n2_; clear ho hb hg hat))
       go_roundg k1
       case measure => have := HK1.out; omega
       case rel => exact ⟨(x8_1), (y190), (wrap64 (x10_1 + 1)), (by first | rfl | (simp; done) | (simp [*]; done)), H', ⟨by have := HK1.out; omega⟩, ⟨by (with_reducible repeat (first | apply Kd.R_alloc | apply Kd.R_drewN | apply Kd.R_drew)); exact Kd.R_mono HO_8.out (fun _ hk => hk.2)⟩, ⟨by (with_reducible repeat (first | apply Kd.R_alloc | apply Kd.R_drewN | apply Kd.R_drew)); exact HO192.out⟩, ⟨bb_⟩⟩
      ·
       rw [if_neg c16] at H
       exact absurd H (by simp)
    ·
     rw [if_neg c9] at H
     exact absurd H (by simp)
   ·
    rw [if_neg c8] at H
    have c8b0 : decide (x10_1 < (l0.length : Int)) = false := decide_eq_false c8
    clear c8
    simp only [Option.some.injEq, Prod.mk.injEq] at H
    obtain ⟨rfl, rfl⟩ := H
    go_wp2
    go_ret2
    exact ⟨_, _, er_, by (with_reducible repeat (first | apply Kd.R_alloc | apply Kd.R_drewN | apply Kd.R_drew)); exact HO_8.out, by (with_reducible repeat (first | apply Kd.R_alloc | apply Kd.R_drewN | apply Kd.R_drew)); exact HO_9.out, bb_⟩
end Go.Proofs.Ytomanpmffjkkgaa.P
namespace Go.Proofs.Ytomanpmffjkkgaa.P
open Go.RowKit Go.Proofs.YtomanpmffjkkgaaW.PrintWords Go.Proofs.YtomanpmffjkkgaaW.PrintLast Go.Proofs.YtomanpmffjkkgaaW.PrintMore
attribute [local go_sem] max2_int min2_int max_two min_two max_three min_three max_four min_four   -- for this text's walks alone
set_option linter.unusedVariables false
set_option linter.unusedSimpArgs false
def laws_markLotS.l0 : Nat → List (S37) → Int → Int → Option (Int × (List (S37)))
 | 0, _, _, _ => none
 | k + 1, x0, x1, x5 => if x5 < (x0.length : Int) then (if 0 ≤ x5 then ((some (x0.set (x5 : Int).toNat (⟨x1, (rd_T37 x0 x5).f1, (rd_T37 x0 x5).f2, (rd_T37 x0 x5).f3, (rd_T37 x0 x5).f4⟩ : S37) : List (S37))).bind fun y253 => ((some (y253.set (x5 : Int).toNat (⟨(rd_T37 y253 x5).f0, wrap64 (x1 + 1), (rd_T37 y253 x5).f2, (rd_T37 y253 x5).f3, (rd_T37 y253 x5).f4⟩ : S37) : List (S37))).bind fun y254 => ((some (y254.set (x5 : Int).toNat (⟨(rd_T37 y254 x5).f0, (rd_T37 y254 x5).f1, wrap64 ((wrap64 (x1 + 1)) + 1), (rd_T37 y254 x5).f3, (rd_T37 y254 x5).f4⟩ : S37) : List (S37))).bind fun y255 => ((some (y255.set (x5 : Int).toNat (⟨(rd_T37 y255 x5).f0, (rd_T37 y255 x5).f1, (rd_T37 y255 x5).f2, wrap64 ((wrap64 ((wrap64 (x1 + 1)) + 1)) + 1), (rd_T37 y255 x5).f4⟩ : S37) : List (S37))).bind fun y256 => (laws_markLotS.l0 k (y256.set (x5 : Int).toNat (⟨(rd_T37 y256 x5).f0, (rd_T37 y256 x5).f1, (rd_T37 y256 x5).f2, (rd_T37 y256 x5).f3, wrap64 ((wrap64 ((wrap64 ((wrap64 (x1 + 1)) + 1)) + 1)) + 1)⟩ : S37)) (wrap64 ((wrap64 ((wrap64 ((wrap64 ((wrap64 (x1 + 1)) + 1)) + 1)) + 1)) + 1)) (wrap64 (x5 + 1))))))) else (none)) else (some (x1, x0))
def laws_markLotS.f (k : Nat) (l0 : List (S37)) (a1 : Int) : Option (Int × (List (S37))) := laws_markLotS.l0 k l0 a1 0
set_option maxHeartbeats 8000000 in
set_option maxRecDepth 100000 in
theorem laws_markLotS.calls (k : Nat) (P0_ : Nat → Prop) (u9000_ : Value) (l0 : List (S37)) (a1 : Int) (r1 : Int) (r2 : List (S37)) (w0 w : World) (hB : Below w0.heap.size w0 w) (ho0 : Kd.R k37 37 w w0.heap.size P0_ u9000_ l0) (h : laws_markLotS.f k l0 a1 = some (r1, r2)) :
 Calls Try.prog 25 #[u9000_, .int .i64 a1] w fun e w' => e = .returned (.int .i64 r1) ∧ Kd.R k37 37 w' w0.heap.size (fun k_ => (P0_ k_ ∨ w.heap.size ≤ k_)) u9000_ r2 ∧ Below w0.heap.size w0 w' ∧ Kept w w' (fun k_ => P0_ k_) := by
 have HO0 := Aside0.mk (show Kd.R k37 37 w w0.heap.size (fun k_ => (P0_ k_ ∨ w.heap.size ≤ k_)) u9000_ l0 from Kd.R_mono ho0 (fun k_ hk => (.inl hk)))
 have HK := Aside0.mk (Kept.refl w (fun k_ => P0_ k_))
 have HW0 := Aside0.mk hB.size
 have HB := Aside0.mk hB
 clear hB
 have H : (laws_markLotS.l0 k l0 a1 0) = some (r1, r2) := h
 clear h
 have H' := Aside0.mk H
 clear H
 go_enter Try.func25, Try.ntmps25
 go_wp2
 go_loopg [1, 5] k (fun kq v1 v5 w' => ∃ (x0_1 : List (S37)) (x1_1 : Int) (x5_1 : Int), v1 = .int .i64 x1_1 ∧ v5 = .int .i64 x5_1 ∧ Aside0 (laws_markLotS.l0 kq x0_1 x1_1 x5_1 = some (r1, r2)) ∧ Aside0 (kq ≤ k) ∧ Aside0 (Kd.R k37 37 w' w0.heap.size (fun k_ => (P0_ k_ ∨ w.heap.size ≤ k_)) u9000_ x0_1) ∧ Aside0 (Kept w w' (fun k_ => P0_ k_)) ∧ Aside0 (Below w0.heap.size w0 w'))
 case atStart => exact ⟨(l0), (a1), (0), (by first | rfl | (simp; done) | (simp [*]; done)), (by first | rfl | (simp; done) | (simp [*]; done)), H', ⟨Nat.le_refl _⟩, ⟨by (with_reducible repeat (first | apply Kd.R_alloc | apply Kd.R_drewN | apply Kd.R_drew)); exact HO0.out⟩, ⟨kp_⟩, ⟨bb_⟩⟩
 case round =>
  clear H'
  try clear c2
  try clear p2
  obtain ⟨x0_1, x1_1, x5_1, rfl, rfl, HA, HK1, HO_0, HK, HB⟩ := hrel
  cases gk with
  | zero => exact absurd HA.out (by simp [laws_markLotS.l0])
  | succ k1 =>
   have H := HA.out
   clear HA
   simp only [laws_markLotS.l0] at H
   by_cases c3 : x5_1 < (x0_1.length : Int)
   ·
    rw [if_pos c3] at H
    have c3b0 : decide (x5_1 < (x0_1.length : Int)) = true := decide_eq_true c3
    clear c3
    by_cases c4 : 0 ≤ x5_1
    ·
     rw [if_pos c4] at H
     have c4b0 : decide (0 ≤ x5_1) = true := decide_eq_true c4
     clear c4
     obtain ⟨y253, hy253⟩ : ∃ y_ : List (S37), y_ = (x0_1.set (x5_1 : Int).toNat (⟨x1_1, (rd_T37 x0_1 x5_1).f1, (rd_T37 x0_1 x5_1).f2, (rd_T37 x0_1 x5_1).f3, (rd_T37 x0_1 x5_1).f4⟩ : S37)) := ⟨_, rfl⟩
     replace H : ((some (y253.set (x5_1 : Int).toNat (⟨(rd_T37 y253 x5_1).f0, wrap64 (x1_1 + 1), (rd_T37 y253 x5_1).f2, (rd_T37 y253 x5_1).f3, (rd_T37 y253 x5_1).f4⟩ : S37) : List (S37))).bind fun y254 => ((some (y254.set (x5_1 : Int).toNat (⟨(rd_T37 y254 x5_1).f0, (rd_T37 y254 x5_1).f1, wrap64 ((wrap64 (x1_1 + 1)) + 1), (rd_T37 y254 x5_1).f3, (rd_T37 y254 x5_1).f4⟩ : S37) : List (S37))).bind fun y255 => ((some (y255.set (x5_1 : Int).toNat (⟨(rd_T37 y255 x5_1).f0, (rd_T37 y255 x5_1).f1, (rd_T37 y255 x5_1).f2, wrap64 ((wrap64 ((wrap64 (x1_1 + 1)) + 1)) + 1), (rd_T37 y255 x5_1).f4⟩ : S37) : List (S37))).bind fun y256 => (laws_markLotS.l0 k1 (y256.set (x5_1 : Int).toNat (⟨(rd_T37 y256 x5_1).f0, (rd_T37 y256 x5_1).f1, (rd_T37 y256 x5_1).f2, (rd_T37 y256 x5_1).f3, wrap64 ((wrap64 ((wrap64 ((wrap64 (x1_1 + 1)) + 1)) + 1)) + 1)⟩ : S37)) (wrap64 ((wrap64 ((wrap64 ((wrap64 ((wrap64 (x1_1 + 1)) + 1)) + 1)) + 1)) + 1)) (wrap64 (x5_1 + 1)))))) = some (r1, r2) := rh_ hy253 H
     have Ny253 := Aside0.mk hy253
     clear hy253
     obtain ⟨y254, hy254⟩ : ∃ y_ : List (S37), y_ = (y253.set (x5_1 : Int).toNat (⟨(rd_T37 y253 x5_1).f0, wrap64 (x1_1 + 1), (rd_T37 y253 x5_1).f2, (rd_T37 y253 x5_1).f3, (rd_T37 y253 x5_1).f4⟩ : S37)) := ⟨_, rfl⟩
     replace H : ((some (y254.set (x5_1 : Int).toNat (⟨(rd_T37 y254 x5_1).f0, (rd_T37 y254 x5_1).f1, wrap64 ((wrap64 (x1_1 + 1)) + 1), (rd_T37 y254 x5_1).f3, (rd_T37 y254 x5_1).f4⟩ : S37) : List (S37))).bind fun y255 => ((some (y255.set (x5_1 : Int).toNat (⟨(rd_T37 y255 x5_1).f0, (rd_T37 y255 x5_1).f1, (rd_T37 y255 x5_1).f2, wrap64 ((wrap64 ((wrap64 (x1_1 + 1)) + 1)) + 1), (rd_T37 y255 x5_1).f4⟩ : S37) : List (S37))).bind fun y256 => (laws_markLotS.l0 k1 (y256.set (x5_1 : Int).toNat (⟨(rd_T37 y256 x5_1).f0, (rd_T37 y256 x5_1).f1, (rd_T37 y256 x5_1).f2, (rd_T37 y256 x5_1).f3, wrap64 ((wrap64 ((wrap64 ((wrap64 (x1_1 + 1)) + 1)) + 1)) + 1)⟩ : S37)) (wrap64 ((wrap64 ((wrap64 ((wrap64 ((wrap64 (x1_1 + 1)) + 1)) + 1)) + 1)) + 1)) (wrap64 (x5_1 + 1))))) = some (r1, r2) := rh_ hy254 H
     have Ny254 := Aside0.mk hy254
     clear hy254
     obtain ⟨y255, hy255⟩ : ∃ y_ : List (S37), y_ = (y254.set (x5_1 : Int).toNat (⟨(rd_T37 y254 x5_1).f0, (rd_T37 y254 x5_1).f1, wrap64 ((wrap64 (x1_1 + 1)) + 1), (rd_T37 y254 x5_1).f3, (rd_T37 y254 x5_1).f4⟩ : S37)) := ⟨_, rfl⟩
     replace H : ((some (y255.set (x5_1 : Int).toNat (⟨(rd_T37 y255 x5_1).f0, (rd_T37 y255 x5_1).f1, (rd_T37 y255 x5_1).f2, wrap64 ((wrap64 ((wrap64 (x1_1 + 1)) + 1)) + 1), (rd_T37 y255 x5_1).f4⟩ : S37) : List (S37))).bind fun y256 => (laws_markLotS.l0 k1 (y256.set (x5_1 : Int).toNat (⟨(rd_T37 y256 x5_1).f0, (rd_T37 y256 x5_1).f1, (rd_T37 y256 x5_1).f2, (rd_T37 y256 x5_1).f3, wrap64 ((wrap64 ((wrap64 ((wrap64 (x1_1 + 1)) + 1)) + 1)) + 1)⟩ : S37)) (wrap64 ((wrap64 ((wrap64 ((wrap64 ((wrap64 (x1_1 + 1)) + 1)) + 1)) + 1)) + 1)) (wrap64 (x5_1 + 1)))) = some (r1, r2) := rh_ hy255 H
     have Ny255 := Aside0.mk hy255
     clear hy255
     obtain ⟨y256, hy256⟩ : ∃ y_ : List (S37), y_ = (y255.set (x5_1 : Int).toNat (⟨(rd_T37 y255 x5_1).f0, (rd_T37 y255 x5_1).f1, (rd_T37 y255 x5_1).f2, wrap64 ((wrap64 ((wrap64 (x1_1 + 1)) + 1)) + 1), (rd_T37 y255 x5_1).f4⟩ : S37)) := ⟨_, rfl⟩
     replace H : (laws_markLotS.l0 k1 (y256.set (x5_1 : Int).toNat (⟨(rd_T37 y256 x5_1).f0, (rd_T37 y256 x5_1).f1, (rd_T37 y256 x5_1).f2, (rd_T37 y256 x5_1).f3, wrap64 ((wrap64 ((wrap64 ((wrap64 (x1_1 + 1)) + 1)) + 1)) + 1)⟩ : S37)) (wrap64 ((wrap64 ((wrap64 ((wrap64 ((wrap64 (x1_1 + 1)) + 1)) + 1)) + 1)) + 1)) (wrap64 (x5_1 + 1))) = some (r1, r2) := rh_ hy256 H
     have Ny256 := Aside0.mk hy256
     clear hy256
     obtain ⟨y257, hy257⟩ : ∃ y_ : List (S37), y_ = (y256.set (x5_1 : Int).toNat (⟨(rd_T37 y256 x5_1).f0, (rd_T37 y256 x5_1).f1, (rd_T37 y256 x5_1).f2, (rd_T37 y256 x5_1).f3, wrap64 ((wrap64 ((wrap64 ((wrap64 (x1_1 + 1)) + 1)) + 1)) + 1)⟩ : S37)) := ⟨_, rfl⟩
     replace H : (laws_markLotS.l0 k1 y257 (wrap64 ((wrap64 ((wrap64 ((wrap64 ((wrap64 (x1_1 + 1)) + 1)) + 1)) + 1)) + 1)) (wrap64 (x5_1 + 1))) = some (r1, r2) := rh_ hy257 H
     have Ny257 := Aside0.mk hy257
     clear hy257
     have H' := Aside0.mk H
     clear H
     obtain ⟨Ao10, co10, eo10⟩ := Kd.R_slice HO_0.out
     subst eo10
     have p5 : 0 ≤ (x5_1 : Int) := od_
     have q5 : (x5_1 : Int) < ((x0_1.length : Int) : Int) := od_
     obtain ⟨go5, co5, eo5, gb5, gl5, cl5, HG5⟩ := Kd.R_form HO_0.out (by omega)
     (first | cases eo5 | (injection eo5 with ea_ en_ ec_; (first | subst ea_ | (injection ea_ with ea_; subst ea_)); subst ec_; clear en_))
     have GB5 := Aside0.mk gb5
     have GG5 := Aside0.mk HG5
     clear gb5 gl5 HG5
     have HMgo5 := Aside0.mk (show (P0_ go5 ∨ w.heap.size ≤ go5) from (HO_0.out.1 _ rfl))
     obtain ⟨ce5, hcl5, hM5, hcc5, hfr5⟩ := Kd.R_elem HO_0.out z37 (x5_1 : Int) p5 q5
     obtain rfl := k37_openM hM5
     have hx5_0 : wr.cell? ⟨go5, (x5_1 : Int).toNat * 5, none⟩ = some (.int .i64 ((rd_T37 x0_1 x5_1).f0)) := hcc5 0 _ rfl
     have hx5_1 : wr.cell? ⟨go5, (x5_1 : Int).toNat * 5 + 1, none⟩ = some (.int .i64 ((rd_T37 x0_1 x5_1).f1)) := hcc5 1 _ rfl
     have hx5_2 : wr.cell? ⟨go5, (x5_1 : Int).toNat * 5 + 2, none⟩ = some (.int .i64 ((rd_T37 x0_1 x5_1).f2)) := hcc5 2 _ rfl
     have hx5_3 : wr.cell? ⟨go5, (x5_1 : Int).toNat * 5 + 3, none⟩ = some (.int .i64 ((rd_T37 x0_1 x5_1).f3)) := hcc5 3 _ rfl
     have hx5_4 : wr.cell? ⟨go5, (x5_1 : Int).toNat * 5 + 4, none⟩ = some (.int .i64 ((rd_T37 x0_1 x5_1).f4)) := hcc5 4 _ rfl
     have hf5_0 : wr.frozen? ⟨go5, (x5_1 : Int).toNat * 5, none⟩ = false := hfr5 0
     have hf5_1 : wr.frozen? ⟨go5, (x5_1 : Int).toNat * 5 + 1, none⟩ = false := hfr5 1
     have hf5_2 : wr.frozen? ⟨go5, (x5_1 : Int).toNat * 5 + 2, none⟩ = false := hfr5 2
     have hf5_3 : wr.frozen? ⟨go5, (x5_1 : Int).toNat * 5 + 3, none⟩ = false := hfr5 3
     have hf5_4 : wr.frozen? ⟨go5, (x5_1 : Int).toNat * 5 + 4, none⟩ = false := hfr5 4
     clear hcl5 hcc5 hfr5 hM5
     replace p5 := eq_true p5
     replace q5 := eq_true q5
     have HX11 := Aside0.mk (show Kd.R k37 37 wr w0.heap.size (fun k_ => (P0_ k_ ∨ w.heap.size ≤ k_)) (.slice (some ⟨go5, 0, none⟩) x0_1.length co10) x0_1 from (pe_ HO_0.out))
     obtain ⟨ce11, hcl11, hM11, hcc11, hfr11⟩ := Kd.R_elem HX11.out z37 (x5_1 : Int) (od_) (by have h_ : (x5_1 : Int) < ((x0_1.length : Int) : Int) := od_; first | exact h_ | (have e_ := (Kd.R_reads' HO_0.out).1; omega) | simpa using h_)
     obtain rfl := k37_openM hM11
     have HP11 := Kd.R_seg HX11.out (x5_1 : Int) (od_) (by have h_ : (x5_1 : Int) < ((x0_1.length : Int) : Int) := od_; first | exact h_ | (have e_ := (Kd.R_reads' HO_0.out).1; omega) | simpa using h_) (seg := [.int .i64 x1_1]) (j := 0) hcl11 hcc11 (show 1 ≤ 5 from by decide) (x' := (⟨x1_1, (rd_T37 x0_1 x5_1).f1, (rd_T37 x0_1 x5_1).f2, (rd_T37 x0_1 x5_1).f3, (rd_T37 x0_1 x5_1).f4⟩ : S37)) (k37_mkM _ _ _ (⟨x1_1, (rd_T37 x0_1 x5_1).f1, (rd_T37 x0_1 x5_1).f2, (rd_T37 x0_1 x5_1).f3, (rd_T37 x0_1 x5_1).f4⟩ : S37) ) (fun _ hk => hk)
     have hx11_0 := hcc11 0 _ rfl
     (try simp only [show (k37).sz = 5 from rfl, Nat.mul_one, Nat.add_zero] at hx11_0)
     have hf11_0 := hfr11 0
     (try simp only [show (k37).sz = 5 from rfl, Nat.mul_one, Nat.add_zero] at hf11_0)
     clear hcl11 hcc11 hfr11 hM11
     go_wp2_with (first | ((with_reducible refine gate_store (t := 3) (p := 16) rfl ?_); refine store_event (t := 3) (p := 16) (v := ?vo_w12) (w1 := (wr.setCell ⟨go5, (x5_1 : Int).toNat * 5, none⟩ (.int .i64 x1_1))) ?hg ?ho ?hn ?hr ?_; (case ho => rfl); (case hg => rfl); (case hn => rfl); (case hr => first | (go_simp; done) | (go_simp; rfl)); intro w12 hw; have hg : wr.grownBy w12 (some go5) := (by rw [hw]; exact HP11.2); have hp_ : Kd.R k37 37 w12 w0.heap.size (fun k_ => (P0_ k_ ∨ w.heap.size ≤ k_)) (.slice (some ⟨go5, 0, none⟩) x0_1.length co10) y253 := (by rw [hw, Ny253.out]; exact HP11.1); clear HP11; have n0_ := Aside0.mk (hp_); have n1_ := Aside0.mk ((by rw [hw]; exact below_set (HB.out) GB5.out : Below w0.heap.size w0 w12)); have n2_ := Aside0.mk (Kept.of_grown (S := (fun k_ => P0_ k_)) hg (kp_) (fun k_ e_ => (HO_0.out.1 k_ e_))); clear HO_0; clear HB; clear HK; have HO_0 := n0_; have HB := n1_; have HK := n2_; clear n0_ n1_ n2_; clear hg hw hp_; have p6 : 0 ≤ (x5_1 : Int) := od_; have q6 : (x5_1 : Int) < ((x0_1.length : Int) : Int) := od_; obtain ⟨ce6, hcl6, hM6, hcc6, hfr6⟩ := Kd.R_elem HO_0.out z37 (x5_1 : Int) p6 q6; obtain rfl := k37_openM hM6; have hx6_0 : w12.cell? ⟨go5, (x5_1 : Int).toNat * 5, none⟩ = some (.int .i64 ((rd_T37 y253 x5_1).f0)) := hcc6 0 _ rfl; have hx6_1 : w12.cell? ⟨go5, (x5_1 : Int).toNat * 5 + 1, none⟩ = some (.int .i64 ((rd_T37 y253 x5_1).f1)) := hcc6 1 _ rfl; have hx6_2 : w12.cell? ⟨go5, (x5_1 : Int).toNat * 5 + 2, none⟩ = some (.int .i64 ((rd_T37 y253 x5_1).f2)) := hcc6 2 _ rfl; have hx6_3 : w12.cell? ⟨go5, (x5_1 : Int).toNat * 5 + 3, none⟩ = some (.int .i64 ((rd_T37 y253 x5_1).f3)) := hcc6 3 _ rfl; have hx6_4 : w12.cell? ⟨go5, (x5_1 : Int).toNat * 5 + 4, none⟩ = some (.int .i64 ((rd_T37 y253 x5_1).f4)) := hcc6 4 _ rfl; have hf6_0 : w12.frozen? ⟨go5, (x5_1 : Int).toNat * 5, none⟩ = false := hfr6 0; have hf6_1 : w12.frozen? ⟨go5, (x5_1 : Int).toNat * 5 + 1, none⟩ = false := hfr6 1; have hf6_2 : w12.frozen? ⟨go5, (x5_1 : Int).toNat * 5 + 2, none⟩ = false := hfr6 2; have hf6_3 : w12.frozen? ⟨go5, (x5_1 : Int).toNat * 5 + 3, none⟩ = false := hfr6 3; have hf6_4 : w12.frozen? ⟨go5, (x5_1 : Int).toNat * 5 + 4, none⟩ = false := hfr6 4; clear hcl6 hcc6 hfr6 hM6; replace p6 := eq_true p6; replace q6 := eq_true q6; have HX13 := Aside0.mk (show Kd.R k37 37 w12 w0.heap.size (fun k_ => (P0_ k_ ∨ w.heap.size ≤ k_)) (.slice (some ⟨go5, 0, none⟩) x0_1.length co10) y253 from (pe_ HO_0.out)); obtain ⟨ce13, hcl13, hM13, hcc13, hfr13⟩ := Kd.R_elem HX13.out z37 (x5_1 : Int) (od_) (by have h_ : (x5_1 : Int) < ((x0_1.length : Int) : Int) := od_; first | exact h_ | (have e_ := (Kd.R_reads' HO_0.out).1; omega) | simpa using h_); obtain rfl := k37_openM hM13; have HP13 := Kd.R_seg HX13.out (x5_1 : Int) (od_) (by have h_ : (x5_1 : Int) < ((x0_1.length : Int) : Int) := od_; first | exact h_ | (have e_ := (Kd.R_reads' HO_0.out).1; omega) | simpa using h_) (seg := [.int .i64 (wrap64 (x1_1 + 1))]) (j := 1) hcl13 hcc13 (show 2 ≤ 5 from by decide) (x' := (⟨(rd_T37 y253 x5_1).f0, wrap64 (x1_1 + 1), (rd_T37 y253 x5_1).f2, (rd_T37 y253 x5_1).f3, (rd_T37 y253 x5_1).f4⟩ : S37)) (k37_mkM _ _ _ (⟨(rd_T37 y253 x5_1).f0, wrap64 (x1_1 + 1), (rd_T37 y253 x5_1).f2, (rd_T37 y253 x5_1).f3, (rd_T37 y253 x5_1).f4⟩ : S37) ) (fun _ hk => hk); have hx13_1 := hcc13 1 _ rfl; (try simp only [show (k37).sz = 5 from rfl, Nat.mul_one, Nat.add_zero] at hx13_1); have hf13_1 := hfr13 1; (try simp only [show (k37).sz = 5 from rfl, Nat.mul_one, Nat.add_zero] at hf13_1); clear hcl13 hcc13 hfr13 hM13) | ((with_reducible refine gate_store (t := 3) (p := 23) rfl ?_); refine store_event (t := 3) (p := 23) (v := ?vo_w14) (w1 := (w12.setCell ⟨go5, (x5_1 : Int).toNat * 5 + 1, none⟩ (.int .i64 (wrap64 (x1_1 + 1))))) ?hg ?ho ?hn ?hr ?_; (case ho => rfl); (case hg => rfl); (case hn => rfl); (case hr => first | (go_simp; done) | (go_simp; rfl)); intro w14 hw; have hg : w12.grownBy w14 (some go5) := (by rw [hw]; exact HP13.2); have hp_ : Kd.R k37 37 w14 w0.heap.size (fun k_ => (P0_ k_ ∨ w.heap.size ≤ k_)) (.slice (some ⟨go5, 0, none⟩) x0_1.length co10) y254 := (by rw [hw, Ny254.out]; exact HP13.1); clear HP13; have n0_ := Aside0.mk (hp_); have n1_ := Aside0.mk ((by rw [hw]; exact below_set (HB.out) GB5.out : Below w0.heap.size w0 w14)); have n2_ := Aside0.mk (Kept.of_grown (S := (fun k_ => P0_ k_)) hg (kp_) (fun k_ e_ => (HO_0.out.1 k_ e_))); clear HO_0; clear HB; clear HK; have HO_0 := n0_; have HB := n1_; have HK := n2_; clear n0_ n1_ n2_; clear hg hw hp_; have p7 : 0 ≤ (x5_1 : Int) := od_; have q7 : (x5_1 : Int) < ((x0_1.length : Int) : Int) := od_; obtain ⟨ce7, hcl7, hM7, hcc7, hfr7⟩ := Kd.R_elem HO_0.out z37 (x5_1 : Int) p7 q7; obtain rfl := k37_openM hM7; have hx7_0 : w14.cell? ⟨go5, (x5_1 : Int).toNat * 5, none⟩ = some (.int .i64 ((rd_T37 y254 x5_1).f0)) := hcc7 0 _ rfl; have hx7_1 : w14.cell? ⟨go5, (x5_1 : Int).toNat * 5 + 1, none⟩ = some (.int .i64 ((rd_T37 y254 x5_1).f1)) := hcc7 1 _ rfl; have hx7_2 : w14.cell? ⟨go5, (x5_1 : Int).toNat * 5 + 2, none⟩ = some (.int .i64 ((rd_T37 y254 x5_1).f2)) := hcc7 2 _ rfl; have hx7_3 : w14.cell? ⟨go5, (x5_1 : Int).toNat * 5 + 3, none⟩ = some (.int .i64 ((rd_T37 y254 x5_1).f3)) := hcc7 3 _ rfl; have hx7_4 : w14.cell? ⟨go5, (x5_1 : Int).toNat * 5 + 4, none⟩ = some (.int .i64 ((rd_T37 y254 x5_1).f4)) := hcc7 4 _ rfl; have hf7_0 : w14.frozen? ⟨go5, (x5_1 : Int).toNat * 5, none⟩ = false := hfr7 0; have hf7_1 : w14.frozen? ⟨go5, (x5_1 : Int).toNat * 5 + 1, none⟩ = false := hfr7 1; have hf7_2 : w14.frozen? ⟨go5, (x5_1 : Int).toNat * 5 + 2, none⟩ = false := hfr7 2; have hf7_3 : w14.frozen? ⟨go5, (x5_1 : Int).toNat * 5 + 3, none⟩ = false := hfr7 3; have hf7_4 : w14.frozen? ⟨go5, (x5_1 : Int).toNat * 5 + 4, none⟩ = false := hfr7 4; clear hcl7 hcc7 hfr7 hM7; replace p7 := eq_true p7; replace q7 := eq_true q7; have HX15 := Aside0.mk (show Kd.R k37 37 w14 w0.heap.size (fun k_ => (P0_ k_ ∨ w.heap.size ≤ k_)) (.slice (some ⟨go5, 0, none⟩) x0_1.length co10) y254 from (pe_ HO_0.out)); obtain ⟨ce15, hcl15, hM15, hcc15, hfr15⟩ := Kd.R_elem HX15.out z37 (x5_1 : Int) (od_) (by have h_ : (x5_1 : Int) < ((x0_1.length : Int) : Int) := od_; first | exact h_ | (have e_ := (Kd.R_reads' HO_0.out).1; omega) | simpa using h_); obtain rfl := k37_openM hM15; have HP15 := Kd.R_seg HX15.out (x5_1 : Int) (od_) (by have h_ : (x5_1 : Int) < ((x0_1.length : Int) : Int) := od_; first | exact h_ | (have e_ := (Kd.R_reads' HO_0.out).1; omega) | simpa using h_) (seg := [.int .i64 (wrap64 ((wrap64 (x1_1 + 1)) + 1))]) (j := 2) hcl15 hcc15 (show 3 ≤ 5 from by decide) (x' := (⟨(rd_T37 y254 x5_1).f0, (rd_T37 y254 x5_1).f1, wrap64 ((wrap64 (x1_1 + 1)) + 1), (rd_T37 y254 x5_1).f3, (rd_T37 y254 x5_1).f4⟩ : S37)) (k37_mkM _ _ _ (⟨(rd_T37 y254 x5_1).f0, (rd_T37 y254 x5_1).f1, wrap64 ((wrap64 (x1_1 + 1)) + 1), (rd_T37 y254 x5_1).f3, (rd_T37 y254 x5_1).f4⟩ : S37) ) (fun _ hk => hk); have hx15_2 := hcc15 2 _ rfl; (try simp only [show (k37).sz = 5 from rfl, Nat.mul_one, Nat.add_zero] at hx15_2); have hf15_2 := hfr15 2; (try simp only [show (k37).sz = 5 from rfl, Nat.mul_one, Nat.add_zero] at hf15_2); clear hcl15 hcc15 hfr15 hM15) | ((with_reducible refine gate_store (t := 3) (p := 30) rfl ?_); refine store_event (t := 3) (p := 30) (v := ?vo_w16) (w1 := (w14.setCell ⟨go5, (x5_1 : Int).toNat * 5 + 2, none⟩ (.int .i64 (wrap64 ((wrap64 (x1_1 + 1)) + 1))))) ?hg ?ho ?hn ?hr ?_; (case ho => rfl); (case hg => rfl); (case hn => rfl); (case hr => first | (go_simp; done) | (go_simp; rfl)); intro w16 hw; have hg : w14.grownBy w16 (some go5) := (by rw [hw]; exact HP15.2); have hp_ : Kd.R k37 37 w16 w0.heap.size (fun k_ => (P0_ k_ ∨ w.heap.size ≤ k_)) (.slice (some ⟨go5, 0, none⟩) x0_1.length co10) y255 := (by rw [hw, Ny255.out]; exact HP15.1); clear HP15; have n0_ := Aside0.mk (hp_); have n1_ := Aside0.mk ((by rw [hw]; exact below_set (HB.out) GB5.out : Below w0.heap.size w0 w16)); have n2_ := Aside0.mk (Kept.of_grown (S := (fun k_ => P0_ k_)) hg (kp_) (fun k_ e_ => (HO_0.out.1 k_ e_))); clear HO_0; clear HB; clear HK; have HO_0 := n0_; have HB := n1_; have HK := n2_; clear n0_ n1_ n2_; clear hg hw hp_; have p8 : 0 ≤ (x5_1 : Int) := od_; have q8 : (x5_1 : Int) < ((x0_1.length : Int) : Int) := od_; obtain ⟨ce8, hcl8, hM8, hcc8, hfr8⟩ := Kd.R_elem HO_0.out z37 (x5_1 : Int) p8 q8; obtain rfl := k37_openM hM8; have hx8_0 : w16.cell? ⟨go5, (x5_1 : Int).toNat * 5, none⟩ = some (.int .i64 ((rd_T37 y255 x5_1).f0)) := hcc8 0 _ rfl; have hx8_1 : w16.cell? ⟨go5, (x5_1 : Int).toNat * 5 + 1, none⟩ = some (.int .i64 ((rd_T37 y255 x5_1).f1)) := hcc8 1 _ rfl; have hx8_2 : w16.cell? ⟨go5, (x5_1 : Int).toNat * 5 + 2, none⟩ = some (.int .i64 ((rd_T37 y255 x5_1).f2)) := hcc8 2 _ rfl; have hx8_3 : w16.cell? ⟨go5, (x5_1 : Int).toNat * 5 + 3, none⟩ = some (.int .i64 ((rd_T37 y255 x5_1).f3)) := hcc8 3 _ rfl; have hx8_4 : w16.cell? ⟨go5, (x5_1 : Int).toNat * 5 + 4, none⟩ = some (.int .i64 ((rd_T37 y255 x5_1).f4)) := hcc8 4 _ rfl; have hf8_0 : w16.frozen? ⟨go5, (x5_1 : Int).toNat * 5, none⟩ = false := hfr8 0; have hf8_1 : w16.frozen? ⟨go5, (x5_1 : Int).toNat * 5 + 1, none⟩ = false := hfr8 1; have hf8_2 : w16.frozen? ⟨go5, (x5_1 : Int).toNat * 5 + 2, none⟩ = false := hfr8 2; have hf8_3 : w16.frozen? ⟨go5, (x5_1 : Int).toNat * 5 + 3, none⟩ = false := hfr8 3; have hf8_4 : w16.frozen? ⟨go5, (x5_1 : Int).toNat * 5 + 4, none⟩ = false := hfr8 4; clear hcl8 hcc8 hfr8 hM8; replace p8 := eq_true p8; replace q8 := eq_true q8; have HX17 := Aside0.mk (show Kd.R k37 37 w16 w0.heap.size (fun k_ => (P0_ k_ ∨ w.heap.size ≤ k_)) (.slice (some ⟨go5, 0, none⟩) x0_1.length co10) y255 from (pe_ HO_0.out)); obtain ⟨ce17, hcl17, hM17, hcc17, hfr17⟩ := Kd.R_elem HX17.out z37 (x5_1 : Int) (od_) (by have h_ : (x5_1 : Int) < ((x0_1.length : Int) : Int) := od_; first | exact h_ | (have e_ := (Kd.R_reads' HO_0.out).1; omega) | simpa using h_); obtain rfl := k37_openM hM17; have HP17 := Kd.R_seg HX17.out (x5_1 : Int) (od_) (by have h_ : (x5_1 : Int) < ((x0_1.length : Int) : Int) := od_; first | exact h_ | (have e_ := (Kd.R_reads' HO_0.out).1; omega) | simpa using h_) (seg := [.int .i64 (wrap64 ((wrap64 ((wrap64 (x1_1 + 1)) + 1)) + 1))]) (j := 3) hcl17 hcc17 (show 4 ≤ 5 from by decide) (x' := (⟨(rd_T37 y255 x5_1).f0, (rd_T37 y255 x5_1).f1, (rd_T37 y255 x5_1).f2, wrap64 ((wrap64 ((wrap64 (x1_1 + 1)) + 1)) + 1), (rd_T37 y255 x5_1).f4⟩ : S37)) (k37_mkM _ _ _ (⟨(rd_T37 y255 x5_1).f0, (rd_T37 y255 x5_1).f1, (rd_T37 y255 x5_1).f2, wrap64 ((wrap64 ((wrap64 (x1_1 + 1)) + 1)) + 1), (rd_T37 y255 x5_1).f4⟩ : S37) ) (fun _ hk => hk); have hx17_3 := hcc17 3 _ rfl; (try simp only [show (k37).sz = 5 from rfl, Nat.mul_one, Nat.add_zero] at hx17_3); have hf17_3 := hfr17 3; (try simp only [show (k37).sz = 5 from rfl, Nat.mul_one, Nat.add_zero] at hf17_3); clear hcl17 hcc17 hfr17 hM17) | ((with_reducible refine gate_store (t := 3) (p := 37) rfl ?_); refine store_event (t := 3) (p := 37) (v := ?vo_w18) (w1 := (w16.setCell ⟨go5, (x5_1 : Int).toNat * 5 + 3, none⟩ (.int .i64 (wrap64 ((wrap64 ((wrap64 (x1_1 + 1)) + 1)) + 1))))) ?hg ?ho ?hn ?hr ?_; (case ho => rfl); (case hg => rfl); (case hn => rfl); (case hr => first | (go_simp; done) | (go_simp; rfl)); intro w18 hw; have hg : w16.grownBy w18 (some go5) := (by rw [hw]; exact HP17.2); have hp_ : Kd.R k37 37 w18 w0.heap.size (fun k_ => (P0_ k_ ∨ w.heap.size ≤ k_)) (.slice (some ⟨go5, 0, none⟩) x0_1.length co10) y256 := (by rw [hw, Ny256.out]; exact HP17.1); clear HP17; have n0_ := Aside0.mk (hp_); have n1_ := Aside0.mk ((by rw [hw]; exact below_set (HB.out) GB5.out : Below w0.heap.size w0 w18)); have n2_ := Aside0.mk (Kept.of_grown (S := (fun k_ => P0_ k_)) hg (kp_) (fun k_ e_ => (HO_0.out.1 k_ e_))); clear HO_0; clear HB; clear HK; have HO_0 := n0_; have HB := n1_; have HK := n2_; clear n0_ n1_ n2_; clear hg hw hp_; have p9 : 0 ≤ (x5_1 : Int) := od_; have q9 : (x5_1 : Int) < ((x0_1.length : Int) : Int) := od_; obtain ⟨ce9, hcl9, hM9, hcc9, hfr9⟩ := Kd.R_elem HO_0.out z37 (x5_1 : Int) p9 q9; obtain rfl := k37_openM hM9; have hx9_0 : w18.cell? ⟨go5, (x5_1 : Int).toNat * 5, none⟩ = some (.int .i64 ((rd_T37 y256 x5_1).f0)) := hcc9 0 _ rfl; have hx9_1 : w18.cell? ⟨go5, (x5_1 : Int).toNat * 5 + 1, none⟩ = some (.int .i64 ((rd_T37 y256 x5_1).f1)) := hcc9 1 _ rfl; have hx9_2 : w18.cell? ⟨go5, (x5_1 : Int).toNat * 5 + 2, none⟩ = some (.int .i64 ((rd_T37 y256 x5_1).f2)) := hcc9 2 _ rfl; have hx9_3 : w18.cell? ⟨go5, (x5_1 : Int).toNat * 5 + 3, none⟩ = some (.int .i64 ((rd_T37 y256 x5_1).f3)) := hcc9 3 _ rfl; have hx9_4 : w18.cell? ⟨go5, (x5_1 : Int).toNat * 5 + 4, none⟩ = some (.int .i64 ((rd_T37 y256 x5_1).f4)) := hcc9 4 _ rfl; have hf9_0 : w18.frozen? ⟨go5, (x5_1 : Int).toNat * 5, none⟩ = false := hfr9 0; have hf9_1 : w18.frozen? ⟨go5, (x5_1 : Int).toNat * 5 + 1, none⟩ = false := hfr9 1; have hf9_2 : w18.frozen? ⟨go5, (x5_1 : Int).toNat * 5 + 2, none⟩ = false := hfr9 2; have hf9_3 : w18.frozen? ⟨go5, (x5_1 : Int).toNat * 5 + 3, none⟩ = false := hfr9 3; have hf9_4 : w18.frozen? ⟨go5, (x5_1 : Int).toNat * 5 + 4, none⟩ = false := hfr9 4; clear hcl9 hcc9 hfr9 hM9; replace p9 := eq_true p9; replace q9 := eq_true q9; have HX19 := Aside0.mk (show Kd.R k37 37 w18 w0.heap.size (fun k_ => (P0_ k_ ∨ w.heap.size ≤ k_)) (.slice (some ⟨go5, 0, none⟩) x0_1.length co10) y256 from (pe_ HO_0.out)); obtain ⟨ce19, hcl19, hM19, hcc19, hfr19⟩ := Kd.R_elem HX19.out z37 (x5_1 : Int) (od_) (by have h_ : (x5_1 : Int) < ((x0_1.length : Int) : Int) := od_; first | exact h_ | (have e_ := (Kd.R_reads' HO_0.out).1; omega) | simpa using h_); obtain rfl := k37_openM hM19; have HP19 := Kd.R_seg HX19.out (x5_1 : Int) (od_) (by have h_ : (x5_1 : Int) < ((x0_1.length : Int) : Int) := od_; first | exact h_ | (have e_ := (Kd.R_reads' HO_0.out).1; omega) | simpa using h_) (seg := [.int .i64 (wrap64 ((wrap64 ((wrap64 ((wrap64 (x1_1 + 1)) + 1)) + 1)) + 1))]) (j := 4) hcl19 hcc19 (show 5 ≤ 5 from by decide) (x' := (⟨(rd_T37 y256 x5_1).f0, (rd_T37 y256 x5_1).f1, (rd_T37 y256 x5_1).f2, (rd_T37 y256 x5_1).f3, wrap64 ((wrap64 ((wrap64 ((wrap64 (x1_1 + 1)) + 1)) + 1)) + 1)⟩ : S37)) (k37_mkM _ _ _ (⟨(rd_T37 y256 x5_1).f0, (rd_T37 y256 x5_1).f1, (rd_T37 y256 x5_1).f2, (rd_T37 y256 x5_1).f3, wrap64 ((wrap64 ((wrap64 ((wrap64 (x1_1 + 1)) + 1)) + 1)) + 1)⟩ : S37) ) (fun _ hk => hk); have hx19_4 := hcc19 4 _ rfl; (try simp only [show (k37).sz = 5 from rfl, Nat.mul_one, Nat.add_zero] at hx19_4); have hf19_4 := hfr19 4; (try simp only [show (k37).sz = 5 from rfl, Nat.mul_one, Nat.add_zero] at hf19_4); clear hcl19 hcc19 hfr19 hM19) | ((with_reducible refine gate_store (t := 3) (p := 44) rfl ?_); refine store_event (t := 3) (p := 44) (v := ?vo_w20) (w1 := (w18.setCell ⟨go5, (x5_1 : Int).toNat * 5 + 4, none⟩ (.int .i64 (wrap64 ((wrap64 ((wrap64 ((wrap64 (x1_1 + 1)) + 1)) + 1)) + 1))))) ?hg ?ho ?hn ?hr ?_; (case ho => rfl); (case hg => rfl); (case hn => rfl); (case hr => first | (go_simp; done) | (go_simp; rfl)); intro w20 hw; have hg : w18.grownBy w20 (some go5) := (by rw [hw]; exact HP19.2); have hp_ : Kd.R k37 37 w20 w0.heap.size (fun k_ => (P0_ k_ ∨ w.heap.size ≤ k_)) (.slice (some ⟨go5, 0, none⟩) x0_1.length co10) y257 := (by rw [hw, Ny257.out]; exact HP19.1); clear HP19; have n0_ := Aside0.mk (hp_); have n1_ := Aside0.mk ((by rw [hw]; exact below_set (HB.out) GB5.out : Below w0.heap.size w0 w20)); have n2_ := Aside0.mk (Kept.of_grown (S := (fun k_ => P0_ k_)) hg (kp_) (fun k_ e_ => (HO_0.out.1 k_ e_))); clear HO_0; clear HB; clear HK; have HO_0 := n0_; have HB := n1_; have HK := n2_; clear n0_ n1_ n2_; clear hg hw hp_))
     go_roundg k1
     case measure => have := HK1.out; omega
     case rel => exact ⟨(y257), (wrap64 ((wrap64 ((wrap64 ((wrap64 ((wrap64 (x1_1 + 1)) + 1)) + 1)) + 1)) + 1)), (wrap64 (x5_1 + 1)), (by first | rfl | (simp; done) | (simp [*]; done)), (by first | rfl | (simp; done) | (simp [*]; done)), H', ⟨by have := HK1.out; omega⟩, ⟨by (with_reducible repeat (first | apply Kd.R_alloc | apply Kd.R_drewN | apply Kd.R_drew)); exact HO_0.out⟩, ⟨kp_⟩, ⟨bb_⟩⟩
    ·
     rw [if_neg c4] at H
     exact absurd H (by simp)
   ·
    rw [if_neg c3] at H
    have c3b0 : decide (x5_1 < (x0_1.length : Int)) = false := decide_eq_false c3
    clear c3
    simp only [Option.some.injEq, Prod.mk.injEq] at H
    obtain ⟨rfl, rfl⟩ := H
    obtain ⟨Ao21, co21, eo21⟩ := Kd.R_slice HO_0.out
    subst eo21
    go_wp2
    go_ret
    exact ⟨er_, by (with_reducible repeat (first | apply Kd.R_alloc | apply Kd.R_drewN | apply Kd.R_drew)); exact HO_0.out, bb_, kp_⟩
end Go.Proofs.Ytomanpmffjkkgaa.P
