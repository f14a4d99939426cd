/- What the law FnScaled leans on, cut out of this repo's own texts by a program of this repo: plain functions, the walks that tie the Go calls to them, the law over lists and numbers, and the row. -/
import Derived.Test.YtomanpmffjkkgaaZFnScaled5
import Derived.RowKit
import Derived.IntWalk
import Derived.Lib.Mul64
import Derived.Laws.BitsLemmas
namespace Go.Proofs.Ytomanpmffjkkgaa.P
end Go.Proofs.Ytomanpmffjkkgaa.P
namespace Go.Proofs.Ytomanpmffjkkgaa.EV
end Go.Proofs.Ytomanpmffjkkgaa.EV
namespace Go.Proofs.Ytomanpmffjkkgaa.I1
end Go.Proofs.Ytomanpmffjkkgaa.I1
namespace Go.Proofs.Ytomanpmffjkkgaa.N1
end Go.Proofs.Ytomanpmffjkkgaa.N1
namespace Go.Proofs.Ytomanpmffjkkgaa.E1
end Go.Proofs.Ytomanpmffjkkgaa.E1
namespace Go.Proofs.Ytomanpmffjkkgaa.E2
end Go.Proofs.Ytomanpmffjkkgaa.E2
namespace Go.Proofs.Ytomanpmffjkkgaa.E3
end Go.Proofs.Ytomanpmffjkkgaa.E3
namespace Go.Proofs.Ytomanpmffjkkgaa.L1
end Go.Proofs.Ytomanpmffjkkgaa.L1
namespace Go.Proofs.Ytomanpmffjkkgaa.E4
end Go.Proofs.Ytomanpmffjkkgaa.E4
namespace Go.Proofs.Ytomanpmffjkkgaa.E5
end Go.Proofs.Ytomanpmffjkkgaa.E5
namespace Go.Proofs.Ytomanpmffjkkgaa.E6
end Go.Proofs.Ytomanpmffjkkgaa.E6
namespace Go.Proofs.Ytomanpmffjkkgaa.E7
end Go.Proofs.Ytomanpmffjkkgaa.E7
namespace Go.Proofs.Ytomanpmffjkkgaa.TI
end Go.Proofs.Ytomanpmffjkkgaa.TI
namespace Go.Proofs.Ytomanpmffjkkgaa.A2
end Go.Proofs.Ytomanpmffjkkgaa.A2
namespace Go.Proofs.Ytomanpmffjkkgaa.W1
end Go.Proofs.Ytomanpmffjkkgaa.W1
namespace Go.Proofs.Ytomanpmffjkkgaa.S1
end Go.Proofs.Ytomanpmffjkkgaa.S1
namespace Go.Proofs.Ytomanpmffjkkgaa.S2
end Go.Proofs.Ytomanpmffjkkgaa.S2
namespace Go.Proofs.Ytomanpmffjkkgaa.S3
end Go.Proofs.Ytomanpmffjkkgaa.S3
namespace Go.Proofs.Ytomanpmffjkkgaa.P
open Go.RowKit Go.Proofs.YtomanpmffjkkgaaW.PrintWords Go.Proofs.YtomanpmffjkkgaaW.PrintLast Go.Proofs.YtomanpmffjkkgaaW.PrintMore
attribute [local go_sem] max2_int min2_int max_two min_two max_three min_three max_four min_four   -- for this text's walks alone
set_option linter.unusedVariables false
set_option linter.unusedSimpArgs false
mutual
def impl_LotsScale.j0 : Nat → List (S37) → Int → Int → Int → Bool → Option ((List (S37)) × Int)
 | 0, _, _, _, _, _ => none
 | k + 1, x0, x1, x2, x3, x28 => if x28 = true then (some (([] : List (S37)), 1)) else ((impl_Lot_55.f x0).bind fun t1047 => ((impl_lotsOf.f x0 x1 x2).bind fun t1050 => (if (t1050.length : Int) = 0 then (impl_LotsScale.j1 k x0 x1 x2 x3 t1047 t1050 (x3 != 0)) else (impl_LotsScale.j1 k x0 x1 x2 x3 t1047 t1050 false))))
def impl_LotsScale.j1 : Nat → List (S37) → Int → Int → Int → List (S37) → List (S37) → Bool → Option ((List (S37)) × Int)
 | 0, _, _, _, _, _, _, _ => none
 | k + 1, x0, x1, x2, x3, x10, x11, x35 => if x35 = true then (some (x10, 2)) else (if (x11.length : Int) = 0 then (some (x10, 0)) else (if (x11.length : Int) > 40 then (some (x10, 3)) else (impl_LotsScale.l0 k x0 x1 x2 x3 x11 (([] : List Int)) x11 (x11.length : Int) 0)))
def impl_LotsScale.l0 : Nat → List (S37) → Int → Int → Int → List (S37) → List Int → List (S37) → Int → Int → Option ((List (S37)) × Int)
 | 0, _, _, _, _, _, _, _, _, _ => none
 | k + 1, x0, x1, x2, x3, x11, x12, x55, x56, x57 => if x57 < x56 then (if 0 ≤ x57 then (if x57 < (x55.length : Int) then (if x12.length < 17592186044416 then (impl_LotsScale.l0 k x0 x1 x2 x3 x11 (x12 ++ [(rd_T37 x55 x57).f3]) x55 x56 (wrap64 (x57 + 1))) else (none)) else (none)) else (none)) else ((impl_Shares.f k x3 x12).bind fun bt1061 => (impl_LotsScale.l1 k x0 x1 x2 bt1061.1 (([] : List (S37))) 0 x11 (x11.length : Int) 0))
def impl_LotsScale.l1 : Nat → List (S37) → Int → Int → List Int → List (S37) → Int → List (S37) → Int → Int → Option ((List (S37)) × Int)
 | 0, _, _, _, _, _, _, _, _, _ => none
 | k + 1, x0, x1, x2, x15, x17, x18, x74, x75, x76 => if x76 < x75 then (if 0 ≤ x76 then (if x76 < (x74.length : Int) then (if x76 < (x15.length : Int) then (if (rd x15 x76) = 0 then (impl_LotsScale.l1 k x0 x1 x2 x15 x17 (wrap64 (x18 + ((rd_T37 x74 x76).f4))) x74 x75 (wrap64 (x76 + 1))) else (if x17.length < 3518437208883 then (impl_LotsScale.l1 k x0 x1 x2 x15 (x17 ++ [(⟨(rd_T37 x74 x76).f0, (rd_T37 x74 x76).f1, (rd_T37 x74 x76).f2, rd x15 x76, (rd_T37 x74 x76).f4⟩ : S37)]) x18 x74 x75 (wrap64 (x76 + 1))) else (none))) else (none)) else (none)) else (none)) else (if (x17.length : Int) > 0 then (if 0 < (x17.length : Int) then ((impl_withLots.f x0 x1 x2 (x17.set (0 : Int).toNat (⟨(rd_T37 x17 0).f0, (rd_T37 x17 0).f1, (rd_T37 x17 0).f2, (rd_T37 x17 0).f3, wrap64 (((rd_T37 x17 0).f4) + x18)⟩ : S37))).bind fun t1076 => (some (t1076, 0))) else (none)) else ((impl_withLots.f x0 x1 x2 x17).bind fun t1079 => (some (t1079, 0))))
end
def impl_LotsScale.f (k : Nat) (l0 : List (S37)) (a1 : Int) (a2 : Int) (a3 : Int) : Option ((List (S37)) × Int) := (impl_LotsOk.f l0).bind fun t1045 => (if t1045 = true then ((impl_in.f a3 0 1000000000000000).bind fun t1046 => (impl_LotsScale.j0 k l0 a1 a2 a3 (!t1046))) else (impl_LotsScale.j0 k l0 a1 a2 a3 true))
set_option maxHeartbeats 8000000 in
set_option maxRecDepth 100000 in
theorem impl_LotsScale.calls (k : Nat) (A0 : Option Addr) (c0 : Nat) (l0 : List (S37)) (a1 : Int) (a2 : Int) (a3 : Int) (r1 : List (S37)) (r2 : Int) (w : World) (hr0 : Kd.C k37 w A0 l0.length l0) (hc0 : l0.length ≤ c0) (h : impl_LotsScale.f k l0 a1 a2 a3 = some (r1, r2)) :
 Calls Try.prog 37 #[.slice A0 l0.length c0, .int .i64 a1, .int .i64 a2, .int .i64 a3] w fun e w' => ∃ v0_ : Value, e = .returned (.tuple #[v0_, .int .i64 r2]) ∧ Kd.R k37 37 w' w.heap.size (fun _ => True) v0_ r1 ∧ Below w.heap.size w w' := by
 have hu37 := Try.underlying37; have HR0 := Aside0.mk hr0; have HC0 := Aside0.mk hc0; clear hr0 hc0; have HB := Aside0.mk (Below.refl w.heap.size w); have H : ((impl_LotsOk.f l0).bind fun t1045 => (if t1045 = true then ((impl_in.f a3 0 1000000000000000).bind fun t1046 => (impl_LotsScale.j0 k l0 a1 a2 a3 (!t1046))) else (impl_LotsScale.j0 k l0 a1 a2 a3 true))) = some (r1, r2) := h; clear h; have HC5 := Aside0.mk H; clear H; go_enter Try.func37, Try.ntmps37; go_upto_region 1 with (fail)
 go_cut [28] (fun v28 wc => ∃ (kq : Nat) (x28_4 : Bool), v28 = .bool x28_4 ∧ Aside0 (impl_LotsScale.j0 kq l0 a1 a2 a3 x28_4 = some (r1, r2)) ∧ Aside0 (kq ≤ k) ∧ Aside0 (Below w.heap.size w wc))
 case first =>
  have H := HC5.out; clear HC5; replace H := Option.bind_eq_some_iff.mp H; obtain ⟨t1045, A60, H⟩ := H; have A6 := Aside0.mk A60; clear A60
  by_cases c7 : t1045 = true
  ·
   subst c7; replace H := Eq.trans (if_pos rfl).symm H; replace H := Option.bind_eq_some_iff.mp H; obtain ⟨t1046, A80, H⟩ := H; have A8 := Aside0.mk A80; clear A80; have H' := Aside0.mk H; clear H; go_wp2_with (first | ((with_reducible refine gate_callee (f := 17) rfl ?_); refine goesL_ (some 22) rfl rfl Try.func17 kr_ rfl #[.slice A0 l0.length c0] rfl (bc_) ?_; (with_reducible refine (impl_LotsOk.calls _ _ l0 true _ ?side1 ?side2 A6.out).mono ?_); (case side1 => exact cc_ (Kd.C_below HR0.out HB.out)); (case side2 => exact HC0.out); rintro e w9 ⟨rfl, hb⟩; refine ⟨_, rfl, ?_⟩; replace HB := Aside0.mk (below_step (bb_) hb); (try clear hb)) | (go_at_call 65; (with_reducible refine (impl_in.calls a3 0 1000000000000000 t1046 _ A8.out).mono ?_); rintro e w' ⟨rfl, ⟨nd, rfl⟩⟩))
   go_meet
   case rel => exact ⟨_, (!t1046), (rs_), H', ⟨le_⟩, ⟨bb_⟩⟩
  ·
   replace c7 := Bool.eq_false_iff.mpr c7; subst c7; have H' := Aside0.mk (Eq.trans (if_neg nf_).symm H); clear H; go_wp2_with (first | ((with_reducible refine gate_callee (f := 17) rfl ?_); refine goesL_ (some 22) rfl rfl Try.func17 kr_ rfl #[.slice A0 l0.length c0] rfl (bc_) ?_; (with_reducible refine (impl_LotsOk.calls _ _ l0 false _ ?side1 ?side2 A6.out).mono ?_); (case side1 => exact cc_ (Kd.C_below HR0.out HB.out)); (case side2 => exact HC0.out); rintro e w10 ⟨rfl, hb⟩; refine ⟨_, rfl, ?_⟩; replace HB := Aside0.mk (below_step (bb_) hb); (try clear hb)))
   go_meet
   case rel => exact ⟨_, (true), (rs_), H', ⟨le_⟩, ⟨bb_⟩⟩
 case rest =>
  clear HC5; try clear c1
  try clear p2
  try clear c3
  try clear c7
  obtain ⟨kq, x28_4, rfl, HA, HJ4, HB⟩ := hcut
  cases kq with
  | zero => exact absurd HA.out (by simp [impl_LotsScale.j0])
  | succ kj4 =>
   have H := HA.out; clear HA; simp only [impl_LotsScale.j0] at H
   by_cases c11 : x28_4 = true
   ·
    subst c11; replace H := Eq.trans (if_pos rfl).symm H; simp only [Option.some.injEq, Prod.mk.injEq] at H; obtain ⟨rfl, rfl⟩ := H; go_wp2; go_ret2; exact ⟨_, er_, by first | exact Kd.R_nil _ _ _ _ _ | exact Kd.N_nil _ _ _ _ _ | exact Kd.V_nil _ _ _ _ _ | exact Kd.Q_nil _ _ _ _ _ | exact Kd.S_nil _ _ _ _ _, bb_⟩
   ·
    replace c11 := Bool.eq_false_iff.mpr c11; subst c11; replace H := Eq.trans (if_neg nf_).symm H; replace H := Option.bind_eq_some_iff.mp H; obtain ⟨t1047, A120, H⟩ := H; have A12 := Aside0.mk A120; clear A120; replace H := Option.bind_eq_some_iff.mp H; obtain ⟨t1050, A130, H⟩ := H; have A13 := Aside0.mk A130; clear A130; have HC14 := Aside0.mk H; clear H
    go_upto_region 5 with (first | ((with_reducible refine gate_callee (f := 55) rfl ?_); refine goesL_ (some 30) rfl rfl Try.func55 kr_ rfl #[.slice A0 l0.length c0] rfl (bc_) ?_; (with_reducible refine (impl_Lot_55.calls _ _ l0 t1047 _ ?side1 ?side2 A12.out).mono ?_); (case side1 => exact cc_ (Kd.C_below HR0.out HB.out)); (case side2 => exact HC0.out); rintro e w15 ⟨v1048, rfl, ho0, hb⟩; refine ⟨_, rfl, ?_⟩; have n_ := as2_ (Kd.R_lower ho0 (below_size (bb_))) (below_step (bb_) hb); clear HB; obtain ⟨HO1049, HB⟩ := n_; (try clear hb); (try clear ho0)) | ((with_reducible refine gate_callee (f := 47) rfl ?_); refine goesL_ (some 34) rfl rfl Try.func47 kr_ rfl #[.slice A0 l0.length c0, .int .i64 a1, .int .i64 a2] rfl (bc_) ?_; (with_reducible refine (impl_lotsOf.calls _ _ l0 a1 a2 t1050 _ ?side1 ?side2 A13.out).mono ?_); (case side1 => exact cc_ (Kd.C_below HR0.out HB.out)); (case side2 => exact HC0.out); rintro e w16 ⟨v1051, rfl, ho0, hb⟩; refine ⟨_, rfl, ?_⟩; have n_ := as3_ (Kd.R_elder' (pe_ HO1049.out) (Kd.R_base ho0) hb) (Kd.R_lower (Kd.R_new' ho0 (Kd.R_lt (pe_ HO1049.out))) (below_size (bb_))) (below_step (bb_) hb); clear HO1049 HB; obtain ⟨HO1049, HO1052, HB⟩ := n_; (try clear hb); (try clear ho0)))
    (try simp only [Act.put, List.setIfInBounds_toArray, List.set_cons_zero, List.set_cons_succ])
    go_cut [35] (fun v35 wc => ∃ (kq : Nat) (x35_13 : Bool), v35 = .bool x35_13 ∧ Aside0 (impl_LotsScale.j1 kq l0 a1 a2 a3 t1047 t1050 x35_13 = some (r1, r2)) ∧ Aside0 (kq ≤ kj4) ∧ Aside0 (Kd.R k37 37 wc w.heap.size (fun k_ => some k_ ≠ (v1051 : Value).ownBlock) v1048 t1047) ∧ Aside0 (Kd.R k37 37 wc w.heap.size (fun k_ => some k_ ≠ (v1048 : Value).ownBlock) v1051 t1050) ∧ Aside0 (Below w.heap.size w wc))
    case first =>
     have H := HC14.out; clear HC14
     by_cases c17 : (t1050.length : Int) = 0
     ·
      rw [if_pos c17] at H; have c17b0 : ((t1050.length : Int) == 0) = true := beq_iff_eq.mpr c17; have c17b1 : ((t1050.length : Int) != 0) = false := bne_eq_false_iff_eq.mpr c17; clear c17; (first | rw [c17b0] | (simp only [i64_w, i32_w]; rw [c17b0]) | skip)
      have H' := Aside0.mk H; clear H; obtain ⟨Ao18, co18, eo18⟩ := Kd.R_slice HO1052.out; subst eo18; go_wp2; go_meet
      case rel => exact ⟨_, ((a3 != 0)), (rs_), H', ⟨by have := HJ4.out; first | omega | exact Nat.le_refl _⟩, ⟨by (with_reducible repeat (first | apply Kd.R_alloc | apply Kd.R_drewN | apply Kd.R_drew)); exact Kd.R_mono HO1049.out (fun _ hk => hk.2)⟩, ⟨by (with_reducible repeat (first | apply Kd.R_alloc | apply Kd.R_drewN | apply Kd.R_drew)); exact Kd.R_mono HO1052.out (fun _ hk => hk.2)⟩, ⟨bb_⟩⟩
     ·
      rw [if_neg c17] at H; have c17b0 : ((t1050.length : Int) == 0) = false := beq_eq_false_iff_ne.mpr c17; have c17b1 : ((t1050.length : Int) != 0) = true := bne_iff_ne.mpr c17; have c17b2 : ¬ (t1050 = []) := fun h_ => c17 (by rw [h_]; rfl)
      (first | rw [c17b0] | (simp only [i64_w, i32_w]; rw [c17b0]) | skip)
      have H' := Aside0.mk H; clear H; obtain ⟨Ao19, co19, eo19⟩ := Kd.R_slice HO1052.out; subst eo19; go_wp2; go_meet
      case rel => exact ⟨_, (false), (rs_), H', ⟨by have := HJ4.out; first | omega | exact Nat.le_refl _⟩, ⟨by (with_reducible repeat (first | apply Kd.R_alloc | apply Kd.R_drewN | apply Kd.R_drew)); exact Kd.R_mono HO1049.out (fun _ hk => hk.2)⟩, ⟨by (with_reducible repeat (first | apply Kd.R_alloc | apply Kd.R_drewN | apply Kd.R_drew)); exact Kd.R_mono HO1052.out (fun _ hk => hk.2)⟩, ⟨bb_⟩⟩
    case rest =>
     clear HC14; (try clear c1); (try clear p2); (try clear c3); (try clear c4); (try clear c5); (try clear c7); (try clear c11); (try clear c17b0); (try clear c17b1); (try clear c17b2); (try clear p2); obtain ⟨kq, x35_13, rfl, HA, HJ13, HO_10, HO_11, HB⟩ := hcut
     cases kq with
     | zero => exact absurd HA.out (by simp [impl_LotsScale.j1])
     | succ kj13 =>
      have H := HA.out; clear HA; simp only [impl_LotsScale.j1] at H
      by_cases c20 : x35_13 = true
      ·
       subst c20; replace H := Eq.trans (if_pos rfl).symm H; simp only [Option.some.injEq, Prod.mk.injEq] at H; obtain ⟨rfl, rfl⟩ := H; go_wp2; go_ret2; exact ⟨_, er_, by (with_reducible repeat (first | apply Kd.R_alloc | apply Kd.R_drewN | apply Kd.R_drew)); exact Kd.R_mono HO_10.out (fun _ hk => trivial), bb_⟩
      ·
       replace c20 := Bool.eq_false_iff.mpr c20; subst c20; replace H := Eq.trans (if_neg nf_).symm H
       by_cases c21 : (t1050.length : Int) = 0
       ·
        rw [if_pos c21] at H; have c21b0 : ((t1050.length : Int) == 0) = true := beq_iff_eq.mpr c21; have c21b1 : ((t1050.length : Int) != 0) = false := bne_eq_false_iff_eq.mpr c21; clear c21; simp only [Option.some.injEq, Prod.mk.injEq] at H; obtain ⟨rfl, rfl⟩ := H; obtain ⟨Ao22, co22, eo22⟩ := Kd.R_slice HO_11.out; subst eo22; go_wp2; go_ret2; exact ⟨_, er_, by (with_reducible repeat (first | apply Kd.R_alloc | apply Kd.R_drewN | apply Kd.R_drew)); exact Kd.R_mono HO_10.out (fun _ hk => trivial), bb_⟩
       ·
        rw [if_neg c21] at H; have c21b0 : ((t1050.length : Int) == 0) = false := beq_eq_false_iff_ne.mpr c21; have c21b1 : ((t1050.length : Int) != 0) = true := bne_iff_ne.mpr c21; have c21b2 : ¬ (t1050 = []) := fun h_ => c21 (by rw [h_]; rfl)
        by_cases c23 : (t1050.length : Int) > 40
        ·
         rw [if_pos c23] at H; have c23b0 : decide (40 < (t1050.length : Int)) = true := decide_eq_true c23; have c23b1 : decide (40 < t1050.length) = true := decide_eq_true (by omega)
         clear c23; simp only [Option.some.injEq, Prod.mk.injEq] at H; obtain ⟨rfl, rfl⟩ := H; obtain ⟨Ao24, co24, eo24⟩ := Kd.R_slice HO_11.out; subst eo24; go_wp2; go_ret2; exact ⟨_, er_, by (with_reducible repeat (first | apply Kd.R_alloc | apply Kd.R_drewN | apply Kd.R_drew)); exact Kd.R_mono HO_10.out (fun _ hk => trivial), bb_⟩
        ·
         rw [if_neg c23] at H; have c23b0 : decide (40 < (t1050.length : Int)) = false := decide_eq_false c23; have c23b1 : decide (40 < t1050.length) = false := decide_eq_false (by omega)
         clear c23; obtain ⟨y1053, hy1053⟩ : ∃ y_ : List Int, y_ = (([] : List Int)) := ⟨_, rfl⟩; replace H : (impl_LotsScale.l0 kj13 l0 a1 a2 a3 t1050 y1053 t1050 (t1050.length : Int) 0) = some (r1, r2) := rh_ hy1053 H; have Ny1053 := Aside0.mk hy1053; clear hy1053; have H' := Aside0.mk H; clear H; obtain ⟨Ao25, co25, eo25⟩ := Kd.R_slice HO_11.out; subst eo25; go_wp2_with (first | ((with_reducible refine gate_dst (N := 54) rfl ?_); refine Kd.R_lit (Kd.int .i64) _ 3 ?hg (N := 54) ?hd (xs := ([] : List Int)) (inner := []) (ok := fun _ => True) (okp := fun _ => True) ?hr ?hp (fun _ hk => hk) trivial (Below.refl _ _) (Nat.le_refl _) (by simp) ?_; (case hd => rfl); (case hg => rfl); (case hr => first | (go_simp; done) | (go_simp; rfl)); (case hp => exact (Reps.none _ _)); intro v1054 w26 ho27 hb hg_ hnew_; clear hg_ hnew_; (first | rw [← Ny1053.out] at ho27 | (simp only [Int.reduceToNat] at ho27; rw [← Ny1053.out] at ho27)); have n_ := as4_ (Kd.R_below (pe_ HO_10.out) hb) (Kd.R_below (pe_ HO_11.out) hb) (Kd.R_lower ho27 (below_size (bb_))) (below_step (bb_) hb); clear HO_10 HO_11 HB; obtain ⟨HO_10, HO_11, HO1055, HB⟩ := n_; clear hb ho27))
         go_loopg [12, 57] kj13 (fun kq v12 v57 w' => ∃ (x12_3 : List Int) (x57_3 : Int), v57 = .int .i64 x57_3 ∧ Aside0 (impl_LotsScale.l0 kq l0 a1 a2 a3 t1050 x12_3 t1050 (t1050.length : Int) x57_3 = some (r1, r2)) ∧ Aside0 (kq ≤ kj13) ∧ Aside0 (Kd.R k37 37 w' w.heap.size (fun _ => True) (.slice Ao25 t1050.length co25) t1050) ∧ Aside0 (Kd.R (Kd.int .i64) 3 w' w.heap.size (fun _ => True) v12 x12_3) ∧ Aside0 (Kd.R k37 37 w' w.heap.size (fun _ => True) (.slice Ao25 t1050.length co25) t1050) ∧ Aside0 (Below w.heap.size w w'))
         case atStart => exact ⟨(y1053), (0), (rs_), H', ⟨Nat.le_refl _⟩, ⟨by (with_reducible repeat (first | apply Kd.R_alloc | apply Kd.R_drewN | apply Kd.R_drew)); exact Kd.R_mono HO_11.out (fun _ hk => trivial)⟩, ⟨pe_ HO1055.out⟩, ⟨by (with_reducible repeat (first | apply Kd.R_alloc | apply Kd.R_drewN | apply Kd.R_drew)); exact Kd.R_mono HO_11.out (fun _ hk => trivial)⟩, ⟨bb_⟩⟩
         case round =>
          clear H'; (try clear c1); (try clear c2); (try clear p2); (try clear c3); (try clear c4); (try clear c5); (try clear c7); (try clear c11); (try clear c17b0); (try clear c17b1); (try clear c17b2); (try clear c20); (try clear c21b0); (try clear c21b1); (try clear c21b2); (try clear c23b0); (try clear c23b1); (try clear p2); obtain ⟨x12_3, x57_3, rfl, HA, HK3, HO_11, HO_12, HO_55, HB⟩ := hrel
          cases gk with
          | zero => exact absurd HA.out (by simp [impl_LotsScale.l0])
          | succ k3 =>
           have H := HA.out; clear HA; simp only [impl_LotsScale.l0] at H
           by_cases c28 : x57_3 < (t1050.length : Int)
           ·
            rw [if_pos c28] at H; have c28b0 : decide (x57_3 < (t1050.length : Int)) = true := decide_eq_true c28; clear c28
            by_cases c29 : 0 ≤ x57_3
            ·
             rw [if_pos c29] at H; have c29b0 : decide (0 ≤ x57_3) = true := decide_eq_true c29; clear c29
             by_cases c30 : x57_3 < (t1050.length : Int)
             ·
              rw [if_pos c30] at H; have c30b0 : decide (x57_3 < (t1050.length : Int)) = true := decide_eq_true c30; clear c30
              by_cases c31 : x12_3.length < 17592186044416
              ·
               rw [if_pos c31] at H; have LMc31 := Aside0.mk c31; clear c31; obtain ⟨y1058, hy1058⟩ : ∃ y_ : List Int, y_ = (x12_3 ++ [(rd_T37 t1050 x57_3).f3]) := ⟨_, rfl⟩; replace H : (impl_LotsScale.l0 k3 l0 a1 a2 a3 t1050 y1058 t1050 (t1050.length : Int) (wrap64 (x57_3 + 1))) = some (r1, r2) := rh_ hy1058 H; have Ny1058 := Aside0.mk hy1058; clear hy1058; have H' := Aside0.mk H; clear H; have p1056 : 0 ≤ (x57_3 : Int) := od_; have q1056 : x57_3 < (t1050.length : Int) := od_; obtain ⟨ad1056, e1056, hx1056_0, hx1056_1, hx1056_2, hx1056_3, hx1056_4⟩ := at_T37 (Kd.R_reads' HO_55.out).2.2 x57_3 p1056 q1056; cases e1056; replace p1056 := eq_true p1056; replace q1056 := eq_true q1056
               go_wp2_with (first | ((with_reducible refine gate_dst (N := 14) rfl ?_); refine be_ 14 (cs := #[.int .i64 0, .int .i64 0, .int .i64 0, .int .i64 0, .int .i64 0]) (t := 37) ?_; intro gb1057 hg w32 hbox hb; have n_ := as7_ (Kd.R_below (Kd.R_elderB (pe_ HO_11.out) gb1057 (Nat.le_of_eq hg.symm)) hb) (Kd.R_below (pe_ HO_12.out) hb) (Kd.R_below (Kd.R_elderB (pe_ HO_55.out) gb1057 (Nat.le_of_eq hg.symm)) hb) (below_step (bb_) hb) (hbox) ((gs_ hg : w.heap.size ≤ gb1057)) ((gs_ hg : w.heap.size ≤ gb1057)); clear HO_11 HO_12 HO_55 HB; obtain ⟨HO_11, HO_12, HO_55, HB, BK1057, GW1057, GE1057⟩ := n_; clear hb hbox hg; obtain ⟨hcz33_0, hcz33_1, hcz33_2, hcz33_3, hcz33_4, hfz33_0, hfz33_1, hfz33_2, hfz33_3, hfz33_4⟩ := ce5_ BK1057.out) | ((with_reducible refine gate_store (t := 37) (p := 14) rfl ?_); refine store_event (t := 37) (p := 14) (v := ?vo_w34) (w1 := (((((w32.setCell ⟨gb1057, 0, none⟩ (.int .i64 ((rd_T37 t1050 x57_3).f0))).setCell ⟨gb1057, 1, none⟩ (.int .i64 ((rd_T37 t1050 x57_3).f1))).setCell ⟨gb1057, 2, none⟩ (.int .i64 ((rd_T37 t1050 x57_3).f2))).setCell ⟨gb1057, 3, none⟩ (.int .i64 ((rd_T37 t1050 x57_3).f3))).setCell ⟨gb1057, 4, none⟩ (.int .i64 ((rd_T37 t1050 x57_3).f4)))) ?hg ?ho ?hn ?hr ?_; (case ho => rfl); (case hg => rfl); (case hn => rfl); (case hr => first | (go_simp; done) | (go_simp; rfl)); intro w34 hw; have n0_ : Aside0 (Kd.R k37 37 w34 w.heap.size (fun k_ => k_ ≠ gb1057) (.slice (some ad1056) t1050.length co25) t1050) := ⟨(by rw [hw]; exact (by (with_reducible repeat (first | apply Kd.R_alloc | apply Kd.R_drewN | apply Kd.R_drew)); exact Kd.R_mono (Kd.R_far (p := ⟨gb1057, 4, none⟩) (Kd.R_far (p := ⟨gb1057, 3, none⟩) (Kd.R_far (p := ⟨gb1057, 2, none⟩) (Kd.R_far (p := ⟨gb1057, 1, none⟩) (Kd.R_far (p := ⟨gb1057, 0, none⟩) (Kd.R_mono HO_11.out (fun k_ hk => (⟨hk, hk.2⟩ : _ ∧ k_ ≠ gb1057))) (fun _ hk => hk.2) (.int .i64 ((rd_T37 t1050 x57_3).f0))) (fun _ hk => hk.2) (.int .i64 ((rd_T37 t1050 x57_3).f1))) (fun _ hk => hk.2) (.int .i64 ((rd_T37 t1050 x57_3).f2))) (fun _ hk => hk.2) (.int .i64 ((rd_T37 t1050 x57_3).f3))) (fun _ hk => hk.2) (.int .i64 ((rd_T37 t1050 x57_3).f4))) (fun _ hk => hk.1.2)))⟩; have n1_ : Aside0 (Kd.R (Kd.int .i64) 3 w34 w.heap.size (fun _ => True) u12 x12_3) := ⟨(by rw [hw]; exact (by (with_reducible repeat (first | apply Kd.R_alloc | apply Kd.R_drewN | apply Kd.R_drew)); exact Kd.R_mono (Kd.R_far (p := ⟨gb1057, 4, none⟩) (Kd.R_far (p := ⟨gb1057, 3, none⟩) (Kd.R_far (p := ⟨gb1057, 2, none⟩) (Kd.R_far (p := ⟨gb1057, 1, none⟩) (Kd.R_far (p := ⟨gb1057, 0, none⟩) (Kd.R_types HO_12.out BK1057.out (by decide)) (fun _ hk => hk.2) (.int .i64 ((rd_T37 t1050 x57_3).f0))) (fun _ hk => hk.2) (.int .i64 ((rd_T37 t1050 x57_3).f1))) (fun _ hk => hk.2) (.int .i64 ((rd_T37 t1050 x57_3).f2))) (fun _ hk => hk.2) (.int .i64 ((rd_T37 t1050 x57_3).f3))) (fun _ hk => hk.2) (.int .i64 ((rd_T37 t1050 x57_3).f4))) (fun _ hk => trivial)))⟩; have n2_ : Aside0 (Kd.R k37 37 w34 w.heap.size (fun k_ => k_ ≠ gb1057) (.slice (some ad1056) t1050.length co25) t1050) := ⟨(by rw [hw]; exact (by (with_reducible repeat (first | apply Kd.R_alloc | apply Kd.R_drewN | apply Kd.R_drew)); exact Kd.R_mono (Kd.R_far (p := ⟨gb1057, 4, none⟩) (Kd.R_far (p := ⟨gb1057, 3, none⟩) (Kd.R_far (p := ⟨gb1057, 2, none⟩) (Kd.R_far (p := ⟨gb1057, 1, none⟩) (Kd.R_far (p := ⟨gb1057, 0, none⟩) (Kd.R_mono HO_55.out (fun k_ hk => (⟨hk, hk.2⟩ : _ ∧ k_ ≠ gb1057))) (fun _ hk => hk.2) (.int .i64 ((rd_T37 t1050 x57_3).f0))) (fun _ hk => hk.2) (.int .i64 ((rd_T37 t1050 x57_3).f1))) (fun _ hk => hk.2) (.int .i64 ((rd_T37 t1050 x57_3).f2))) (fun _ hk => hk.2) (.int .i64 ((rd_T37 t1050 x57_3).f3))) (fun _ hk => hk.2) (.int .i64 ((rd_T37 t1050 x57_3).f4))) (fun _ hk => hk.1.2)))⟩; have n3_ : Aside0 (w34.heap[gb1057]? = some (.cells #[.int .i64 ((rd_T37 t1050 x57_3).f0), .int .i64 ((rd_T37 t1050 x57_3).f1), .int .i64 ((rd_T37 t1050 x57_3).f2), .int .i64 ((rd_T37 t1050 x57_3).f3), .int .i64 ((rd_T37 t1050 x57_3).f4)] 37 (0, 0))) := ⟨(by rw [hw]; exact (by (with_reducible repeat (first | refine blk_drewN ?_ _ | refine blk_drew ?_ | refine blk_alloc ?_ _)); refine blk_put (cs := #[.int .i64 ((rd_T37 t1050 x57_3).f0), .int .i64 ((rd_T37 t1050 x57_3).f1), .int .i64 ((rd_T37 t1050 x57_3).f2), .int .i64 ((rd_T37 t1050 x57_3).f3), .int .i64 0]) ?_ 4 _ rfl; (with_reducible repeat (first | refine blk_drewN ?_ _ | refine blk_drew ?_ | refine blk_alloc ?_ _)); refine blk_put (cs := #[.int .i64 ((rd_T37 t1050 x57_3).f0), .int .i64 ((rd_T37 t1050 x57_3).f1), .int .i64 ((rd_T37 t1050 x57_3).f2), .int .i64 0, .int .i64 0]) ?_ 3 _ rfl; (with_reducible repeat (first | refine blk_drewN ?_ _ | refine blk_drew ?_ | refine blk_alloc ?_ _)); refine blk_put (cs := #[.int .i64 ((rd_T37 t1050 x57_3).f0), .int .i64 ((rd_T37 t1050 x57_3).f1), .int .i64 0, .int .i64 0, .int .i64 0]) ?_ 2 _ rfl; (with_reducible repeat (first | refine blk_drewN ?_ _ | refine blk_drew ?_ | refine blk_alloc ?_ _)); refine blk_put (cs := #[.int .i64 ((rd_T37 t1050 x57_3).f0), .int .i64 0, .int .i64 0, .int .i64 0, .int .i64 0]) ?_ 1 _ rfl; (with_reducible repeat (first | refine blk_drewN ?_ _ | refine blk_drew ?_ | refine blk_alloc ?_ _)); refine blk_put (cs := #[.int .i64 0, .int .i64 0, .int .i64 0, .int .i64 0, .int .i64 0]) ?_ 0 _ rfl; (with_reducible repeat (first | refine blk_drewN ?_ _ | refine blk_drew ?_ | refine blk_alloc ?_ _)); exact BK1057.out))⟩; have n4_ : Aside0 (Below w.heap.size w w34) := ⟨(by rw [hw]; exact (bg_ GE1057.out))⟩; clear hw; clear HO_11; clear HO_12; clear HO_55; clear BK1057; clear HB; have HO_11 := n0_; have HO_12 := n1_; have HO_55 := n2_; have BK1057 := n3_; have HB := n4_; clear n0_ n1_ n2_ n3_ n4_; obtain ⟨hcz35_0, hcz35_1, hcz35_2, hcz35_3, hcz35_4, hfz35_0, hfz35_1, hfz35_2, hfz35_3, hfz35_4⟩ := ce5_ BK1057.out) | ((with_reducible refine gate_builtin (b := .append) (xs := #[.tmp 61, .tmp 64]) rfl ?_); at_builtin; refine Kd.R_append (Kd.int .i64) (w0 := w) w.heap.size rfl (.tmp 61) (.tmp 64) 71 3 (.int .i64 0) 8 rfl Try.underlying71 info3 rfl (by decide) (by omega) u12 x12_3 ((rd_T37 t1050 x57_3).f3) [.int .i64 ((rd_T37 t1050 x57_3).f3)] (fun _ => True) (fun _ => False) rfl rfl ?aP (fun _ hk => hk.elim) ?aF ?aO ?aB ?aS ?aL ?_; (case aP => exact rfl); (case aB => exact (bg_ GE1057.out)); (case aF => exact (fun _ _ => trivial)); (case aO => exact (pe_ HO_12.out)); (case aS => exact (below_size (bg_ GE1057.out))); (case aL => have := LMc31.out; omega); intro v1059 w36 ho hb hg hat; rw [← Ny1058.out] at ho; have n_ := as5_ (Kd.R_over' (pe_ HO_11.out) (Kd.R_typed (pe_ HO_12.out)) (by decide) hg) (Kd.R_over' (pe_ HO_55.out) (Kd.R_typed (pe_ HO_12.out)) (by decide) hg) (blk_grown (g := gb1057) (o := .cells #[.int .i64 ((rd_T37 t1050 x57_3).f0), .int .i64 ((rd_T37 t1050 x57_3).f1), .int .i64 ((rd_T37 t1050 x57_3).f2), .int .i64 ((rd_T37 t1050 x57_3).f3), .int .i64 ((rd_T37 t1050 x57_3).f4)] 37 (0, 0)) (pb_ BK1057.out) hg (Kd.R_ne HO_12.out BK1057.out (by decide))) (hb) (ho); clear HO_11 HO_55 BK1057 HB HO_12; obtain ⟨HO_11, HO_55, BK1057, HB, HO1060⟩ := n_; clear ho hb hg hat))
               go_roundg k3
               case measure => have := HJ4.out; have := HJ13.out; have := HK3.out; omega
               case rel => exact ⟨(y1058), (wrap64 (x57_3 + 1)), (rs_), H', ⟨by have := HJ4.out; have := HJ13.out; have := HK3.out; omega⟩, ⟨by (with_reducible repeat (first | apply Kd.R_alloc | apply Kd.R_drewN | apply Kd.R_drew)); exact Kd.R_mono HO_11.out (fun _ hk => trivial)⟩, ⟨pe_ HO1060.out⟩, ⟨by (with_reducible repeat (first | apply Kd.R_alloc | apply Kd.R_drewN | apply Kd.R_drew)); exact Kd.R_mono HO_55.out (fun _ hk => trivial)⟩, ⟨bg_ GE1057.out⟩⟩
              ·
               rw [if_neg c31] at H; exact absurd H (by simp)
             ·
              rw [if_neg c30] at H; exact absurd H (by simp)
            ·
             rw [if_neg c29] at H; exact absurd H (by simp)
           ·
            rw [if_neg c28] at H; have c28b0 : decide (x57_3 < (t1050.length : Int)) = false := decide_eq_false c28; clear c28; replace H := Option.bind_eq_some_iff.mp H; obtain ⟨⟨t1061, t1062⟩, A370, H⟩ := H; replace H : (impl_LotsScale.l1 k3 l0 a1 a2 t1061 (([] : List (S37))) 0 t1050 (t1050.length : Int) 0) = some (r1, r2) := H; have A37 := Aside0.mk A370; clear A370; obtain ⟨y1065, hy1065⟩ : ∃ y_ : List (S37), y_ = (([] : List (S37))) := ⟨_, rfl⟩; replace H : (impl_LotsScale.l1 k3 l0 a1 a2 t1061 y1065 0 t1050 (t1050.length : Int) 0) = some (r1, r2) := rh_ hy1065 H; have Ny1065 := Aside0.mk hy1065; clear hy1065; have H' := Aside0.mk H; clear H; obtain ⟨Ao38, co38, eo38⟩ := Kd.R_slice HO_12.out; subst eo38
            go_wp2_with (first | ((with_reducible refine gate_callee (f := 73) rfl ?_); refine goesL_ (some 70) rfl rfl Try.func73 kr_ rfl #[.int .i64 a3, .slice Ao38 x12_3.length co38] rfl (bc_) ?_; (with_reducible refine (impl_Shares.calls k3 a3 _ _ x12_3 t1061 t1062 _ ?side1 ?side2 A37.out).mono ?_); (case side1 => exact cc_ (Kd.R_reads' HO_12.out).2.2); (case side2 => exact (Kd.R_reads' HO_12.out).2.1); rintro e w39 ⟨v1063, rfl, ho0, hb⟩; refine ⟨_, rfl, ?_⟩; have n_ := as5_ (Kd.R_below (pe_ HO_11.out) hb) (Kd.R_elder' (pe_ HO_12.out) (Kd.R_base ho0) hb) (Kd.R_below (pe_ HO_55.out) hb) (Kd.R_lower (Kd.R_new' ho0 (Kd.R_lt (pe_ HO_12.out))) (below_size (bb_))) (below_step (bb_) hb); clear HO_11 HO_12 HO_55 HB; obtain ⟨HO_11, HO_12, HO_55, HO1064, HB⟩ := n_; (try clear hb); (try clear ho0)) | ((with_reducible refine gate_dst (N := 73) rfl ?_); refine Kd.R_lit k37 _ 37 ?hg (N := 73) ?hd (xs := ([] : List (S37))) (inner := []) (ok := fun _ => True) (okp := fun _ => True) ?hr ?hp (fun _ hk => hk) trivial (Below.refl _ _) (Nat.le_refl _) (by simp) ?_; (case hd => rfl); (case hg => rfl); (case hr => first | (go_simp; done) | (go_simp; rfl)); (case hp => exact (Reps.none _ _)); intro v1066 w40 ho41 hb hg_ hnew_; clear hg_ hnew_; (first | rw [← Ny1065.out] at ho41 | (simp only [Int.reduceToNat] at ho41; rw [← Ny1065.out] at ho41)); have n_ := as6_ (Kd.R_elder' (pe_ HO_11.out) (Kd.R_base ho41) hb) (Kd.R_below (pe_ HO_12.out) hb) (Kd.R_elder' (pe_ HO_55.out) (Kd.R_base ho41) hb) (Kd.R_below (pe_ HO1064.out) hb) (Kd.R_lower (Kd.R_new' (Kd.R_new' ho41 (Kd.R_lt (pe_ HO_11.out))) (Kd.R_lt (pe_ HO_55.out))) (below_size (bb_))) (below_step (bb_) hb); clear HO_11 HO_12 HO_55 HO1064 HB; obtain ⟨HO_11, HO_12, HO_55, HO1064, HO1067, HB⟩ := n_; clear hb ho41))
            go_loopg [17, 18, 76] k3 (fun kq v17 v18 v76 w' => ∃ (x17_4 : List (S37)) (x18_4 : Int) (x76_4 : Int), v18 = .int .i64 x18_4 ∧ v76 = .int .i64 x76_4 ∧ Aside0 (impl_LotsScale.l1 kq l0 a1 a2 t1061 x17_4 x18_4 t1050 (t1050.length : Int) x76_4 = some (r1, r2)) ∧ Aside0 (kq ≤ k3) ∧ Aside0 (Kd.R (Kd.int .i64) 3 w' w.heap.size (fun _ => True) v1063 t1061) ∧ Aside0 (Kd.R k37 37 w' w.heap.size (fun k_ => some k_ ≠ ((.slice Ao25 t1050.length co25) : Value).ownBlock) v17 x17_4) ∧ Aside0 (Kd.R k37 37 w' w.heap.size (fun k_ => some k_ ≠ (v17 : Value).ownBlock) (.slice Ao25 t1050.length co25) t1050) ∧ Aside0 (Below w.heap.size w w'))
            case atStart => exact ⟨(y1065), (0), (0), (rs_), (rs_), H', ⟨Nat.le_refl _⟩, ⟨by (with_reducible repeat (first | apply Kd.R_alloc | apply Kd.R_drewN | apply Kd.R_drew)); exact Kd.R_mono HO1064.out (fun _ hk => trivial)⟩, ⟨by (with_reducible repeat (first | apply Kd.R_alloc | apply Kd.R_drewN | apply Kd.R_drew)); exact Kd.R_mono HO1067.out (fun _ hk => hk.1.2)⟩, ⟨by (with_reducible repeat (first | apply Kd.R_alloc | apply Kd.R_drewN | apply Kd.R_drew)); exact Kd.R_mono HO_11.out (fun _ hk => hk.2)⟩, ⟨bb_⟩⟩
            case round =>
             clear H'; (try clear c1); (try clear p1); (try clear q1); (try clear hx1); (try clear c2); (try clear p2); (try clear c3); (try clear c4); (try clear c5); (try clear p6); (try clear c7); (try clear p10); (try clear q10); (try clear hx10); (try clear c11); (try clear c17b0); (try clear c17b1); (try clear c17b2); (try clear c20); (try clear c21b0); (try clear c21b1); (try clear c21b2); (try clear c23b0); (try clear c23b1); (try clear c28b0); (try clear c29b0); (try clear c30b0); (try clear c37); (try clear hcz33_0); (try clear hcz33_1); (try clear hcz33_2); (try clear hcz33_3); (try clear hcz33_4); (try clear hcz35_0); (try clear hcz35_1); (try clear hcz35_2); (try clear hcz35_3); (try clear hcz35_4); (try clear hfz33_0); (try clear hfz33_1); (try clear hfz33_2); (try clear hfz33_3); (try clear hfz33_4); (try clear hfz35_0); (try clear hfz35_1); (try clear hfz35_2); (try clear hfz35_3); (try clear hfz35_4); (try clear hx1056_0); (try clear hx1056_1); (try clear hx1056_2); (try clear hx1056_3); (try clear hx1056_4); (try clear p1056); (try clear p2); (try clear q1056); obtain ⟨x17_4, x18_4, x76_4, rfl, rfl, HA, HK4, HO_15, HO_17, HO_74, HB⟩ := hrel
             cases gk with
             | zero => exact absurd HA.out (by simp [impl_LotsScale.l1])
             | succ k4 =>
              have H := HA.out; clear HA; simp only [impl_LotsScale.l1] at H
              by_cases c42 : x76_4 < (t1050.length : Int)
              ·
               rw [if_pos c42] at H; have c42b0 : decide (x76_4 < (t1050.length : Int)) = true := decide_eq_true c42; clear c42
               by_cases c43 : 0 ≤ x76_4
               ·
                rw [if_pos c43] at H; have c43b0 : decide (0 ≤ x76_4) = true := decide_eq_true c43; clear c43
                by_cases c44 : x76_4 < (t1050.length : Int)
                ·
                 rw [if_pos c44] at H; have c44b0 : decide (x76_4 < (t1050.length : Int)) = true := decide_eq_true c44; clear c44
                 by_cases c45 : x76_4 < (t1061.length : Int)
                 ·
                  rw [if_pos c45] at H; have c45b0 : decide (x76_4 < (t1061.length : Int)) = true := decide_eq_true c45; clear c45
                  by_cases c46 : (rd t1061 x76_4) = 0
                  ·
                   rw [if_pos c46] at H; have c46b0 : ((rd t1061 x76_4) == 0) = true := beq_iff_eq.mpr c46; have c46b1 : ((rd t1061 x76_4) != 0) = false := bne_eq_false_iff_eq.mpr c46; clear c46; have H' := Aside0.mk H; clear H; have p1068 : 0 ≤ (x76_4 : Int) := od_; have q1068 : x76_4 < (t1050.length : Int) := od_; obtain ⟨ad1068, e1068, hx1068_0, hx1068_1, hx1068_2, hx1068_3, hx1068_4⟩ := at_T37 (Kd.R_reads' HO_74.out).2.2 x76_4 p1068 q1068; cases e1068; replace p1068 := eq_true p1068; replace q1068 := eq_true q1068
                   go_wp2_with (first | ((with_reducible refine gate_dst (N := 20) rfl ?_); refine be_ 20 (cs := #[.int .i64 0, .int .i64 0, .int .i64 0, .int .i64 0, .int .i64 0]) (t := 37) ?_; intro gb1069 hg w47 hbox hb; have n_ := as7_ (Kd.R_below (pe_ HO_15.out) hb) (Kd.R_below (Kd.R_elderB (pe_ HO_17.out) gb1069 (Nat.le_of_eq hg.symm)) hb) (Kd.R_below (Kd.R_elderB (pe_ HO_74.out) gb1069 (Nat.le_of_eq hg.symm)) hb) (below_step (bb_) hb) (hbox) ((gs_ hg : w.heap.size ≤ gb1069)) ((gs_ hg : w.heap.size ≤ gb1069)); clear HO_15 HO_17 HO_74 HB; obtain ⟨HO_15, HO_17, HO_74, HB, BK1069, GW1069, GE1069⟩ := n_; clear hb hbox hg; obtain ⟨hcz48_0, hcz48_1, hcz48_2, hcz48_3, hcz48_4, hfz48_0, hfz48_1, hfz48_2, hfz48_3, hfz48_4⟩ := ce5_ BK1069.out) | ((with_reducible refine gate_store (t := 37) (p := 20) rfl ?_); refine store_event (t := 37) (p := 20) (v := ?vo_w49) (w1 := (((((w47.setCell ⟨gb1069, 0, none⟩ (.int .i64 ((rd_T37 t1050 x76_4).f0))).setCell ⟨gb1069, 1, none⟩ (.int .i64 ((rd_T37 t1050 x76_4).f1))).setCell ⟨gb1069, 2, none⟩ (.int .i64 ((rd_T37 t1050 x76_4).f2))).setCell ⟨gb1069, 3, none⟩ (.int .i64 ((rd_T37 t1050 x76_4).f3))).setCell ⟨gb1069, 4, none⟩ (.int .i64 ((rd_T37 t1050 x76_4).f4)))) ?hg ?ho ?hn ?hr ?_; (case ho => rfl); (case hg => rfl); (case hn => rfl); (case hr => first | (go_simp; done) | (go_simp; rfl)); intro w49 hw; have n0_ : Aside0 (Kd.R (Kd.int .i64) 3 w49 w.heap.size (fun _ => True) v1063 t1061) := ⟨(by rw [hw]; exact (by (with_reducible repeat (first | apply Kd.R_alloc | apply Kd.R_drewN | apply Kd.R_drew)); exact Kd.R_mono (Kd.R_far (p := ⟨gb1069, 4, none⟩) (Kd.R_far (p := ⟨gb1069, 3, none⟩) (Kd.R_far (p := ⟨gb1069, 2, none⟩) (Kd.R_far (p := ⟨gb1069, 1, none⟩) (Kd.R_far (p := ⟨gb1069, 0, none⟩) (Kd.R_types HO_15.out BK1069.out (by decide)) (fun _ hk => hk.2) (.int .i64 ((rd_T37 t1050 x76_4).f0))) (fun _ hk => hk.2) (.int .i64 ((rd_T37 t1050 x76_4).f1))) (fun _ hk => hk.2) (.int .i64 ((rd_T37 t1050 x76_4).f2))) (fun _ hk => hk.2) (.int .i64 ((rd_T37 t1050 x76_4).f3))) (fun _ hk => hk.2) (.int .i64 ((rd_T37 t1050 x76_4).f4))) (fun _ hk => trivial)))⟩; have n1_ : Aside0 (Kd.R k37 37 w49 w.heap.size (fun k_ => some k_ ≠ (.slice (some ad1068) t1050.length co25 : Value).ownBlock ∧ k_ ≠ gb1069) u17 x17_4) := ⟨(by rw [hw]; exact (by (with_reducible repeat (first | apply Kd.R_alloc | apply Kd.R_drewN | apply Kd.R_drew)); exact Kd.R_mono (Kd.R_far (p := ⟨gb1069, 4, none⟩) (Kd.R_far (p := ⟨gb1069, 3, none⟩) (Kd.R_far (p := ⟨gb1069, 2, none⟩) (Kd.R_far (p := ⟨gb1069, 1, none⟩) (Kd.R_far (p := ⟨gb1069, 0, none⟩) (Kd.R_mono HO_17.out (fun k_ hk => (⟨hk, hk.2⟩ : _ ∧ k_ ≠ gb1069))) (fun _ hk => hk.2) (.int .i64 ((rd_T37 t1050 x76_4).f0))) (fun _ hk => hk.2) (.int .i64 ((rd_T37 t1050 x76_4).f1))) (fun _ hk => hk.2) (.int .i64 ((rd_T37 t1050 x76_4).f2))) (fun _ hk => hk.2) (.int .i64 ((rd_T37 t1050 x76_4).f3))) (fun _ hk => hk.2) (.int .i64 ((rd_T37 t1050 x76_4).f4))) (fun _ hk => ⟨hk.1.1, hk.1.2⟩)))⟩; have n2_ : Aside0 (Kd.R k37 37 w49 w.heap.size (fun k_ => some k_ ≠ (u17 : Value).ownBlock ∧ k_ ≠ gb1069) (.slice (some ad1068) t1050.length co25) t1050) := ⟨(by rw [hw]; exact (by (with_reducible repeat (first | apply Kd.R_alloc | apply Kd.R_drewN | apply Kd.R_drew)); exact Kd.R_mono (Kd.R_far (p := ⟨gb1069, 4, none⟩) (Kd.R_far (p := ⟨gb1069, 3, none⟩) (Kd.R_far (p := ⟨gb1069, 2, none⟩) (Kd.R_far (p := ⟨gb1069, 1, none⟩) (Kd.R_far (p := ⟨gb1069, 0, none⟩) (Kd.R_mono HO_74.out (fun k_ hk => (⟨hk, hk.2⟩ : _ ∧ k_ ≠ gb1069))) (fun _ hk => hk.2) (.int .i64 ((rd_T37 t1050 x76_4).f0))) (fun _ hk => hk.2) (.int .i64 ((rd_T37 t1050 x76_4).f1))) (fun _ hk => hk.2) (.int .i64 ((rd_T37 t1050 x76_4).f2))) (fun _ hk => hk.2) (.int .i64 ((rd_T37 t1050 x76_4).f3))) (fun _ hk => hk.2) (.int .i64 ((rd_T37 t1050 x76_4).f4))) (fun _ hk => ⟨hk.1.1, hk.1.2⟩)))⟩; have n3_ : Aside0 (w49.heap[gb1069]? = some (.cells #[.int .i64 ((rd_T37 t1050 x76_4).f0), .int .i64 ((rd_T37 t1050 x76_4).f1), .int .i64 ((rd_T37 t1050 x76_4).f2), .int .i64 ((rd_T37 t1050 x76_4).f3), .int .i64 ((rd_T37 t1050 x76_4).f4)] 37 (0, 0))) := ⟨(by rw [hw]; exact (by (with_reducible repeat (first | refine blk_drewN ?_ _ | refine blk_drew ?_ | refine blk_alloc ?_ _)); refine blk_put (cs := #[.int .i64 ((rd_T37 t1050 x76_4).f0), .int .i64 ((rd_T37 t1050 x76_4).f1), .int .i64 ((rd_T37 t1050 x76_4).f2), .int .i64 ((rd_T37 t1050 x76_4).f3), .int .i64 0]) ?_ 4 _ rfl; (with_reducible repeat (first | refine blk_drewN ?_ _ | refine blk_drew ?_ | refine blk_alloc ?_ _)); refine blk_put (cs := #[.int .i64 ((rd_T37 t1050 x76_4).f0), .int .i64 ((rd_T37 t1050 x76_4).f1), .int .i64 ((rd_T37 t1050 x76_4).f2), .int .i64 0, .int .i64 0]) ?_ 3 _ rfl; (with_reducible repeat (first | refine blk_drewN ?_ _ | refine blk_drew ?_ | refine blk_alloc ?_ _)); refine blk_put (cs := #[.int .i64 ((rd_T37 t1050 x76_4).f0), .int .i64 ((rd_T37 t1050 x76_4).f1), .int .i64 0, .int .i64 0, .int .i64 0]) ?_ 2 _ rfl; (with_reducible repeat (first | refine blk_drewN ?_ _ | refine blk_drew ?_ | refine blk_alloc ?_ _)); refine blk_put (cs := #[.int .i64 ((rd_T37 t1050 x76_4).f0), .int .i64 0, .int .i64 0, .int .i64 0, .int .i64 0]) ?_ 1 _ rfl; (with_reducible repeat (first | refine blk_drewN ?_ _ | refine blk_drew ?_ | refine blk_alloc ?_ _)); refine blk_put (cs := #[.int .i64 0, .int .i64 0, .int .i64 0, .int .i64 0, .int .i64 0]) ?_ 0 _ rfl; (with_reducible repeat (first | refine blk_drewN ?_ _ | refine blk_drew ?_ | refine blk_alloc ?_ _)); exact BK1069.out))⟩; have n4_ : Aside0 (Below w.heap.size w w49) := ⟨(by rw [hw]; exact (bg_ GE1069.out))⟩; clear hw; clear HO_15; clear HO_17; clear HO_74; clear BK1069; clear HB; have HO_15 := n0_; have HO_17 := n1_; have HO_74 := n2_; have BK1069 := n3_; have HB := n4_; clear n0_ n1_ n2_ n3_ n4_; obtain ⟨Ao50, co50, eo50⟩ := Kd.R_slice HO_15.out; subst eo50; have p1070 : 0 ≤ (x76_4 : Int) := od_; have q1070 : x76_4 < (t1061.length : Int) := od_; obtain ⟨ad1070, e1070, hx1070_0⟩ := Kd.at_int (Kd.R_reads' HO_15.out).2.2 x76_4 p1070 q1070; cases e1070; replace p1070 := eq_true p1070; replace q1070 := eq_true q1070; obtain ⟨hcz51_0, hcz51_1, hcz51_2, hcz51_3, hcz51_4, hfz51_0, hfz51_1, hfz51_2, hfz51_3, hfz51_4⟩ := ce5_ BK1069.out) | ((with_reducible refine gate_store (t := 3) (p := 85) rfl ?_); refine store_event (t := 3) (p := 85) (v := ?vo_w52) (w1 := (w49.setCell ⟨gb1069, 3, none⟩ (.int .i64 (rd t1061 x76_4)))) ?hg ?ho ?hn ?hr ?_; (case ho => rfl); (case hg => rfl); (case hn => rfl); (case hr => first | (go_simp; done) | (go_simp; rfl)); intro w52 hw; have n0_ : Aside0 (Kd.R (Kd.int .i64) 3 w52 w.heap.size (fun _ => True) (.slice (some ad1070) t1061.length co50) t1061) := ⟨(by rw [hw]; exact (by (with_reducible repeat (first | apply Kd.R_alloc | apply Kd.R_drewN | apply Kd.R_drew)); exact Kd.R_mono (Kd.R_far (p := ⟨gb1069, 3, none⟩) (Kd.R_types HO_15.out BK1069.out (by decide)) (fun _ hk => hk.2) (.int .i64 (rd t1061 x76_4))) (fun _ hk => trivial)))⟩; have n1_ : Aside0 (Kd.R k37 37 w52 w.heap.size (fun k_ => some k_ ≠ (.slice (some ad1068) t1050.length co25 : Value).ownBlock ∧ k_ ≠ gb1069) u17 x17_4) := ⟨(by rw [hw]; exact (by (with_reducible repeat (first | apply Kd.R_alloc | apply Kd.R_drewN | apply Kd.R_drew)); exact Kd.R_mono (Kd.R_far (p := ⟨gb1069, 3, none⟩) (Kd.R_mono HO_17.out (fun k_ hk => (⟨hk, hk.2⟩ : _ ∧ k_ ≠ gb1069))) (fun _ hk => hk.2) (.int .i64 (rd t1061 x76_4))) (fun _ hk => ⟨hk.1.1, hk.1.2⟩)))⟩; have n2_ : Aside0 (Kd.R k37 37 w52 w.heap.size (fun k_ => some k_ ≠ (u17 : Value).ownBlock ∧ k_ ≠ gb1069) (.slice (some ad1068) t1050.length co25) t1050) := ⟨(by rw [hw]; exact (by (with_reducible repeat (first | apply Kd.R_alloc | apply Kd.R_drewN | apply Kd.R_drew)); exact Kd.R_mono (Kd.R_far (p := ⟨gb1069, 3, none⟩) (Kd.R_mono HO_74.out (fun k_ hk => (⟨hk, hk.2⟩ : _ ∧ k_ ≠ gb1069))) (fun _ hk => hk.2) (.int .i64 (rd t1061 x76_4))) (fun _ hk => ⟨hk.1.1, hk.1.2⟩)))⟩; have n3_ : Aside0 (w52.heap[gb1069]? = some (.cells #[.int .i64 ((rd_T37 t1050 x76_4).f0), .int .i64 ((rd_T37 t1050 x76_4).f1), .int .i64 ((rd_T37 t1050 x76_4).f2), .int .i64 (rd t1061 x76_4), .int .i64 ((rd_T37 t1050 x76_4).f4)] 37 (0, 0))) := ⟨(by rw [hw]; exact (by (with_reducible repeat (first | refine blk_drewN ?_ _ | refine blk_drew ?_ | refine blk_alloc ?_ _)); refine blk_put (cs := #[.int .i64 ((rd_T37 t1050 x76_4).f0), .int .i64 ((rd_T37 t1050 x76_4).f1), .int .i64 ((rd_T37 t1050 x76_4).f2), .int .i64 ((rd_T37 t1050 x76_4).f3), .int .i64 ((rd_T37 t1050 x76_4).f4)]) ?_ 3 _ rfl; (with_reducible repeat (first | refine blk_drewN ?_ _ | refine blk_drew ?_ | refine blk_alloc ?_ _)); exact BK1069.out))⟩; have n4_ : Aside0 (Below w.heap.size w w52) := ⟨(by rw [hw]; exact (bg_ GE1069.out))⟩; clear hw; clear HO_15; clear HO_17; clear HO_74; clear BK1069; clear HB; have HO_15 := n0_; have HO_17 := n1_; have HO_74 := n2_; have BK1069 := n3_; have HB := n4_; clear n0_ n1_ n2_ n3_ n4_; obtain ⟨hcz53_0, hcz53_1, hcz53_2, hcz53_3, hcz53_4, hfz53_0, hfz53_1, hfz53_2, hfz53_3, hfz53_4⟩ := ce5_ BK1069.out))
                   go_roundg k4
                   case measure => have := HJ4.out; have := HJ13.out; have := HK3.out; have := HK4.out; omega
                   case rel => exact ⟨(x17_4), (wrap64 (x18_4 + ((rd_T37 t1050 x76_4).f4))), (wrap64 (x76_4 + 1)), (rs_), (rs_), H', ⟨by have := HJ4.out; have := HJ13.out; have := HK3.out; have := HK4.out; omega⟩, ⟨pe_ HO_15.out⟩, ⟨by (with_reducible repeat (first | apply Kd.R_alloc | apply Kd.R_drewN | apply Kd.R_drew)); exact Kd.R_mono HO_17.out (fun _ hk => hk.1)⟩, ⟨by (with_reducible repeat (first | apply Kd.R_alloc | apply Kd.R_drewN | apply Kd.R_drew)); exact Kd.R_mono HO_74.out (fun _ hk => hk.1)⟩, ⟨bg_ GE1069.out⟩⟩
                  ·
                   rw [if_neg c46] at H; have c46b0 : ((rd t1061 x76_4) == 0) = false := beq_eq_false_iff_ne.mpr c46; have c46b1 : ((rd t1061 x76_4) != 0) = true := bne_iff_ne.mpr c46
                   by_cases c54 : x17_4.length < 3518437208883
                   ·
                    rw [if_pos c54] at H; have LMc54 := Aside0.mk c54; clear c54; obtain ⟨y1071, hy1071⟩ : ∃ y_ : List (S37), y_ = (x17_4 ++ [(⟨(rd_T37 t1050 x76_4).f0, (rd_T37 t1050 x76_4).f1, (rd_T37 t1050 x76_4).f2, rd t1061 x76_4, (rd_T37 t1050 x76_4).f4⟩ : S37)]) := ⟨_, rfl⟩; replace H : (impl_LotsScale.l1 k4 l0 a1 a2 t1061 y1071 x18_4 t1050 (t1050.length : Int) (wrap64 (x76_4 + 1))) = some (r1, r2) := rh_ hy1071 H; have Ny1071 := Aside0.mk hy1071; clear hy1071; have H' := Aside0.mk H; clear H; have p1068 : 0 ≤ (x76_4 : Int) := od_; have q1068 : x76_4 < (t1050.length : Int) := od_; obtain ⟨ad1068, e1068, hx1068_0, hx1068_1, hx1068_2, hx1068_3, hx1068_4⟩ := at_T37 (Kd.R_reads' HO_74.out).2.2 x76_4 p1068 q1068; cases e1068; replace p1068 := eq_true p1068; replace q1068 := eq_true q1068
                    go_wp2_with (first | ((with_reducible refine gate_dst (N := 20) rfl ?_); refine be_ 20 (cs := #[.int .i64 0, .int .i64 0, .int .i64 0, .int .i64 0, .int .i64 0]) (t := 37) ?_; intro gb1069 hg w55 hbox hb; have n_ := as7_ (Kd.R_below (pe_ HO_15.out) hb) (Kd.R_below (Kd.R_elderB (pe_ HO_17.out) gb1069 (Nat.le_of_eq hg.symm)) hb) (Kd.R_below (Kd.R_elderB (pe_ HO_74.out) gb1069 (Nat.le_of_eq hg.symm)) hb) (below_step (bb_) hb) (hbox) ((gs_ hg : w.heap.size ≤ gb1069)) ((gs_ hg : w.heap.size ≤ gb1069)); clear HO_15 HO_17 HO_74 HB; obtain ⟨HO_15, HO_17, HO_74, HB, BK1069, GW1069, GE1069⟩ := n_; clear hb hbox hg; obtain ⟨hcz56_0, hcz56_1, hcz56_2, hcz56_3, hcz56_4, hfz56_0, hfz56_1, hfz56_2, hfz56_3, hfz56_4⟩ := ce5_ BK1069.out) | ((with_reducible refine gate_store (t := 37) (p := 20) rfl ?_); refine store_event (t := 37) (p := 20) (v := ?vo_w57) (w1 := (((((w55.setCell ⟨gb1069, 0, none⟩ (.int .i64 ((rd_T37 t1050 x76_4).f0))).setCell ⟨gb1069, 1, none⟩ (.int .i64 ((rd_T37 t1050 x76_4).f1))).setCell ⟨gb1069, 2, none⟩ (.int .i64 ((rd_T37 t1050 x76_4).f2))).setCell ⟨gb1069, 3, none⟩ (.int .i64 ((rd_T37 t1050 x76_4).f3))).setCell ⟨gb1069, 4, none⟩ (.int .i64 ((rd_T37 t1050 x76_4).f4)))) ?hg ?ho ?hn ?hr ?_; (case ho => rfl); (case hg => rfl); (case hn => rfl); (case hr => first | (go_simp; done) | (go_simp; rfl)); intro w57 hw; have n0_ : Aside0 (Kd.R (Kd.int .i64) 3 w57 w.heap.size (fun _ => True) v1063 t1061) := ⟨(by rw [hw]; exact (by (with_reducible repeat (first | apply Kd.R_alloc | apply Kd.R_drewN | apply Kd.R_drew)); exact Kd.R_mono (Kd.R_far (p := ⟨gb1069, 4, none⟩) (Kd.R_far (p := ⟨gb1069, 3, none⟩) (Kd.R_far (p := ⟨gb1069, 2, none⟩) (Kd.R_far (p := ⟨gb1069, 1, none⟩) (Kd.R_far (p := ⟨gb1069, 0, none⟩) (Kd.R_types HO_15.out BK1069.out (by decide)) (fun _ hk => hk.2) (.int .i64 ((rd_T37 t1050 x76_4).f0))) (fun _ hk => hk.2) (.int .i64 ((rd_T37 t1050 x76_4).f1))) (fun _ hk => hk.2) (.int .i64 ((rd_T37 t1050 x76_4).f2))) (fun _ hk => hk.2) (.int .i64 ((rd_T37 t1050 x76_4).f3))) (fun _ hk => hk.2) (.int .i64 ((rd_T37 t1050 x76_4).f4))) (fun _ hk => trivial)))⟩; have n1_ : Aside0 (Kd.R k37 37 w57 w.heap.size (fun k_ => some k_ ≠ (.slice (some ad1068) t1050.length co25 : Value).ownBlock ∧ k_ ≠ gb1069) u17 x17_4) := ⟨(by rw [hw]; exact (by (with_reducible repeat (first | apply Kd.R_alloc | apply Kd.R_drewN | apply Kd.R_drew)); exact Kd.R_mono (Kd.R_far (p := ⟨gb1069, 4, none⟩) (Kd.R_far (p := ⟨gb1069, 3, none⟩) (Kd.R_far (p := ⟨gb1069, 2, none⟩) (Kd.R_far (p := ⟨gb1069, 1, none⟩) (Kd.R_far (p := ⟨gb1069, 0, none⟩) (Kd.R_mono HO_17.out (fun k_ hk => (⟨hk, hk.2⟩ : _ ∧ k_ ≠ gb1069))) (fun _ hk => hk.2) (.int .i64 ((rd_T37 t1050 x76_4).f0))) (fun _ hk => hk.2) (.int .i64 ((rd_T37 t1050 x76_4).f1))) (fun _ hk => hk.2) (.int .i64 ((rd_T37 t1050 x76_4).f2))) (fun _ hk => hk.2) (.int .i64 ((rd_T37 t1050 x76_4).f3))) (fun _ hk => hk.2) (.int .i64 ((rd_T37 t1050 x76_4).f4))) (fun _ hk => ⟨hk.1.1, hk.1.2⟩)))⟩; have n2_ : Aside0 (Kd.R k37 37 w57 w.heap.size (fun k_ => some k_ ≠ (u17 : Value).ownBlock ∧ k_ ≠ gb1069) (.slice (some ad1068) t1050.length co25) t1050) := ⟨(by rw [hw]; exact (by (with_reducible repeat (first | apply Kd.R_alloc | apply Kd.R_drewN | apply Kd.R_drew)); exact Kd.R_mono (Kd.R_far (p := ⟨gb1069, 4, none⟩) (Kd.R_far (p := ⟨gb1069, 3, none⟩) (Kd.R_far (p := ⟨gb1069, 2, none⟩) (Kd.R_far (p := ⟨gb1069, 1, none⟩) (Kd.R_far (p := ⟨gb1069, 0, none⟩) (Kd.R_mono HO_74.out (fun k_ hk => (⟨hk, hk.2⟩ : _ ∧ k_ ≠ gb1069))) (fun _ hk => hk.2) (.int .i64 ((rd_T37 t1050 x76_4).f0))) (fun _ hk => hk.2) (.int .i64 ((rd_T37 t1050 x76_4).f1))) (fun _ hk => hk.2) (.int .i64 ((rd_T37 t1050 x76_4).f2))) (fun _ hk => hk.2) (.int .i64 ((rd_T37 t1050 x76_4).f3))) (fun _ hk => hk.2) (.int .i64 ((rd_T37 t1050 x76_4).f4))) (fun _ hk => ⟨hk.1.1, hk.1.2⟩)))⟩; have n3_ : Aside0 (w57.heap[gb1069]? = some (.cells #[.int .i64 ((rd_T37 t1050 x76_4).f0), .int .i64 ((rd_T37 t1050 x76_4).f1), .int .i64 ((rd_T37 t1050 x76_4).f2), .int .i64 ((rd_T37 t1050 x76_4).f3), .int .i64 ((rd_T37 t1050 x76_4).f4)] 37 (0, 0))) := ⟨(by rw [hw]; exact (by (with_reducible repeat (first | refine blk_drewN ?_ _ | refine blk_drew ?_ | refine blk_alloc ?_ _)); refine blk_put (cs := #[.int .i64 ((rd_T37 t1050 x76_4).f0), .int .i64 ((rd_T37 t1050 x76_4).f1), .int .i64 ((rd_T37 t1050 x76_4).f2), .int .i64 ((rd_T37 t1050 x76_4).f3), .int .i64 0]) ?_ 4 _ rfl; (with_reducible repeat (first | refine blk_drewN ?_ _ | refine blk_drew ?_ | refine blk_alloc ?_ _)); refine blk_put (cs := #[.int .i64 ((rd_T37 t1050 x76_4).f0), .int .i64 ((rd_T37 t1050 x76_4).f1), .int .i64 ((rd_T37 t1050 x76_4).f2), .int .i64 0, .int .i64 0]) ?_ 3 _ rfl; (with_reducible repeat (first | refine blk_drewN ?_ _ | refine blk_drew ?_ | refine blk_alloc ?_ _)); refine blk_put (cs := #[.int .i64 ((rd_T37 t1050 x76_4).f0), .int .i64 ((rd_T37 t1050 x76_4).f1), .int .i64 0, .int .i64 0, .int .i64 0]) ?_ 2 _ rfl; (with_reducible repeat (first | refine blk_drewN ?_ _ | refine blk_drew ?_ | refine blk_alloc ?_ _)); refine blk_put (cs := #[.int .i64 ((rd_T37 t1050 x76_4).f0), .int .i64 0, .int .i64 0, .int .i64 0, .int .i64 0]) ?_ 1 _ rfl; (with_reducible repeat (first | refine blk_drewN ?_ _ | refine blk_drew ?_ | refine blk_alloc ?_ _)); refine blk_put (cs := #[.int .i64 0, .int .i64 0, .int .i64 0, .int .i64 0, .int .i64 0]) ?_ 0 _ rfl; (with_reducible repeat (first | refine blk_drewN ?_ _ | refine blk_drew ?_ | refine blk_alloc ?_ _)); exact BK1069.out))⟩; have n4_ : Aside0 (Below w.heap.size w w57) := ⟨(by rw [hw]; exact (bg_ GE1069.out))⟩; clear hw; clear HO_15; clear HO_17; clear HO_74; clear BK1069; clear HB; have HO_15 := n0_; have HO_17 := n1_; have HO_74 := n2_; have BK1069 := n3_; have HB := n4_; clear n0_ n1_ n2_ n3_ n4_; obtain ⟨Ao58, co58, eo58⟩ := Kd.R_slice HO_15.out; subst eo58; have p1070 : 0 ≤ (x76_4 : Int) := od_; have q1070 : x76_4 < (t1061.length : Int) := od_; obtain ⟨ad1070, e1070, hx1070_0⟩ := Kd.at_int (Kd.R_reads' HO_15.out).2.2 x76_4 p1070 q1070; cases e1070; replace p1070 := eq_true p1070; replace q1070 := eq_true q1070; obtain ⟨hcz59_0, hcz59_1, hcz59_2, hcz59_3, hcz59_4, hfz59_0, hfz59_1, hfz59_2, hfz59_3, hfz59_4⟩ := ce5_ BK1069.out) | ((with_reducible refine gate_store (t := 3) (p := 85) rfl ?_); refine store_event (t := 3) (p := 85) (v := ?vo_w60) (w1 := (w57.setCell ⟨gb1069, 3, none⟩ (.int .i64 (rd t1061 x76_4)))) ?hg ?ho ?hn ?hr ?_; (case ho => rfl); (case hg => rfl); (case hn => rfl); (case hr => first | (go_simp; done) | (go_simp; rfl)); intro w60 hw; have n0_ : Aside0 (Kd.R (Kd.int .i64) 3 w60 w.heap.size (fun _ => True) (.slice (some ad1070) t1061.length co58) t1061) := ⟨(by rw [hw]; exact (by (with_reducible repeat (first | apply Kd.R_alloc | apply Kd.R_drewN | apply Kd.R_drew)); exact Kd.R_mono (Kd.R_far (p := ⟨gb1069, 3, none⟩) (Kd.R_types HO_15.out BK1069.out (by decide)) (fun _ hk => hk.2) (.int .i64 (rd t1061 x76_4))) (fun _ hk => trivial)))⟩; have n1_ : Aside0 (Kd.R k37 37 w60 w.heap.size (fun k_ => some k_ ≠ (.slice (some ad1068) t1050.length co25 : Value).ownBlock ∧ k_ ≠ gb1069) u17 x17_4) := ⟨(by rw [hw]; exact (by (with_reducible repeat (first | apply Kd.R_alloc | apply Kd.R_drewN | apply Kd.R_drew)); exact Kd.R_mono (Kd.R_far (p := ⟨gb1069, 3, none⟩) (Kd.R_mono HO_17.out (fun k_ hk => (⟨hk, hk.2⟩ : _ ∧ k_ ≠ gb1069))) (fun _ hk => hk.2) (.int .i64 (rd t1061 x76_4))) (fun _ hk => ⟨hk.1.1, hk.1.2⟩)))⟩; have n2_ : Aside0 (Kd.R k37 37 w60 w.heap.size (fun k_ => some k_ ≠ (u17 : Value).ownBlock ∧ k_ ≠ gb1069) (.slice (some ad1068) t1050.length co25) t1050) := ⟨(by rw [hw]; exact (by (with_reducible repeat (first | apply Kd.R_alloc | apply Kd.R_drewN | apply Kd.R_drew)); exact Kd.R_mono (Kd.R_far (p := ⟨gb1069, 3, none⟩) (Kd.R_mono HO_74.out (fun k_ hk => (⟨hk, hk.2⟩ : _ ∧ k_ ≠ gb1069))) (fun _ hk => hk.2) (.int .i64 (rd t1061 x76_4))) (fun _ hk => ⟨hk.1.1, hk.1.2⟩)))⟩; have n3_ : Aside0 (w60.heap[gb1069]? = some (.cells #[.int .i64 ((rd_T37 t1050 x76_4).f0), .int .i64 ((rd_T37 t1050 x76_4).f1), .int .i64 ((rd_T37 t1050 x76_4).f2), .int .i64 (rd t1061 x76_4), .int .i64 ((rd_T37 t1050 x76_4).f4)] 37 (0, 0))) := ⟨(by rw [hw]; exact (by (with_reducible repeat (first | refine blk_drewN ?_ _ | refine blk_drew ?_ | refine blk_alloc ?_ _)); refine blk_put (cs := #[.int .i64 ((rd_T37 t1050 x76_4).f0), .int .i64 ((rd_T37 t1050 x76_4).f1), .int .i64 ((rd_T37 t1050 x76_4).f2), .int .i64 ((rd_T37 t1050 x76_4).f3), .int .i64 ((rd_T37 t1050 x76_4).f4)]) ?_ 3 _ rfl; (with_reducible repeat (first | refine blk_drewN ?_ _ | refine blk_drew ?_ | refine blk_alloc ?_ _)); exact BK1069.out))⟩; have n4_ : Aside0 (Below w.heap.size w w60) := ⟨(by rw [hw]; exact (bg_ GE1069.out))⟩; clear hw; clear HO_15; clear HO_17; clear HO_74; clear BK1069; clear HB; have HO_15 := n0_; have HO_17 := n1_; have HO_74 := n2_; have BK1069 := n3_; have HB := n4_; clear n0_ n1_ n2_ n3_ n4_; obtain ⟨hcz61_0, hcz61_1, hcz61_2, hcz61_3, hcz61_4, hfz61_0, hfz61_1, hfz61_2, hfz61_3, hfz61_4⟩ := ce5_ BK1069.out) | ((with_reducible refine gate_builtin (b := .append) (xs := #[.tmp 93, .tmp 95]) rfl ?_); at_builtin; refine Kd.R_append k37 (w0 := w) w.heap.size rfl (.tmp 93) (.tmp 95) 25 37 (.agg #[(.int .i64 0), (.int .i64 0), (.int .i64 0), (.int .i64 0), (.int .i64 0)]) 40 rfl Try.underlying25 info37 rfl (by decide) (by omega) u17 x17_4 (⟨(rd_T37 t1050 x76_4).f0, (rd_T37 t1050 x76_4).f1, (rd_T37 t1050 x76_4).f2, rd t1061 x76_4, (rd_T37 t1050 x76_4).f4⟩ : S37) [.int .i64 ((rd_T37 t1050 x76_4).f0), .int .i64 ((rd_T37 t1050 x76_4).f1), .int .i64 ((rd_T37 t1050 x76_4).f2), .int .i64 (rd t1061 x76_4), .int .i64 ((rd_T37 t1050 x76_4).f4)] (fun k_ => some k_ ≠ (.slice (some ad1068) t1050.length co25 : Value).ownBlock ∧ k_ ≠ gb1069) (fun _ => False) rfl rfl ?aP (fun _ hk => hk.elim) ?aF ?aO ?aB ?aS ?aL ?_; (case aP => exact k37_mkM _ _ _ (⟨(rd_T37 t1050 x76_4).f0, (rd_T37 t1050 x76_4).f1, (rd_T37 t1050 x76_4).f2, rd t1061 x76_4, (rd_T37 t1050 x76_4).f4⟩ : S37)); (case aB => exact (bg_ GE1069.out)); (case aF => exact (fun k_ hk => ⟨Kd.fresh' (Kd.R_lt (pe_ HO_74.out)) k_ hk, Kd.freshB (g := gb1069) (o := .cells #[.int .i64 ((rd_T37 t1050 x76_4).f0), .int .i64 ((rd_T37 t1050 x76_4).f1), .int .i64 ((rd_T37 t1050 x76_4).f2), .int .i64 (rd t1061 x76_4), .int .i64 ((rd_T37 t1050 x76_4).f4)] 37 (0, 0)) (pb_ BK1069.out) k_ hk⟩)); (case aO => exact (pe_ HO_17.out)); (case aS => exact (below_size (bg_ GE1069.out))); (case aL => have := LMc54.out; omega); intro v1072 w62 ho hb hg hat; rw [← Ny1071.out] at ho; have n_ := as5_ (Kd.R_over' (pe_ HO_15.out) (Kd.R_typed (pe_ HO_17.out)) (by decide) hg) (Kd.R_after (ok := (fun k_ => k_ ≠ gb1069)) (by (with_reducible repeat (first | apply Kd.R_alloc | apply Kd.R_drewN | apply Kd.R_drew)); exact Kd.R_mono HO_74.out (fun _ hk => ⟨hk.2, hk.1⟩)) hg hat) (blk_grown (g := gb1069) (o := .cells #[.int .i64 ((rd_T37 t1050 x76_4).f0), .int .i64 ((rd_T37 t1050 x76_4).f1), .int .i64 ((rd_T37 t1050 x76_4).f2), .int .i64 (rd t1061 x76_4), .int .i64 ((rd_T37 t1050 x76_4).f4)] 37 (0, 0)) (pb_ BK1069.out) hg (Kd.R_away HO_17.out (fun _ hk => hk.2))) (hb) (ho); clear HO_15 HO_74 BK1069 HB HO_17; obtain ⟨HO_15, HO_74, BK1069, HB, HO1073⟩ := n_; clear ho hb hg hat))
                    go_roundg k4
                    case measure => have := HJ4.out; have := HJ13.out; have := HK3.out; have := HK4.out; omega
                    case rel => exact ⟨(y1071), (x18_4), (wrap64 (x76_4 + 1)), (rs_), (rs_), H', ⟨by have := HJ4.out; have := HJ13.out; have := HK3.out; have := HK4.out; omega⟩, ⟨pe_ HO_15.out⟩, ⟨by (with_reducible repeat (first | apply Kd.R_alloc | apply Kd.R_drewN | apply Kd.R_drew)); exact Kd.R_mono HO1073.out (fun _ hk => hk.1)⟩, ⟨by (with_reducible repeat (first | apply Kd.R_alloc | apply Kd.R_drewN | apply Kd.R_drew)); exact Kd.R_mono HO_74.out (fun _ hk => hk.2)⟩, ⟨bg_ GE1069.out⟩⟩
                   ·
                    rw [if_neg c54] at H; exact absurd H (by simp)
                 ·
                  rw [if_neg c45] at H; exact absurd H (by simp)
                ·
                 rw [if_neg c44] at H; exact absurd H (by simp)
               ·
                rw [if_neg c43] at H; exact absurd H (by simp)
              ·
               rw [if_neg c42] at H; have c42b0 : decide (x76_4 < (t1050.length : Int)) = false := decide_eq_false c42; clear c42
               by_cases c63 : (x17_4.length : Int) > 0
               ·
                rw [if_pos c63] at H; have c63b0 : decide (0 < (x17_4.length : Int)) = true := decide_eq_true c63; have c63b1 : decide (0 < x17_4.length) = true := decide_eq_true (by omega)
                clear c63
                by_cases c64 : 0 < (x17_4.length : Int)
                ·
                 rw [if_pos c64] at H; have c64b0 : decide (0 < (x17_4.length : Int)) = true := decide_eq_true c64; have c64b1 : decide (0 < x17_4.length) = true := decide_eq_true (by omega)
                 clear c64; obtain ⟨y1075, hy1075⟩ : ∃ y_ : List (S37), y_ = (x17_4.set (0 : Int).toNat (⟨(rd_T37 x17_4 0).f0, (rd_T37 x17_4 0).f1, (rd_T37 x17_4 0).f2, (rd_T37 x17_4 0).f3, wrap64 (((rd_T37 x17_4 0).f4) + x18_4)⟩ : S37)) := ⟨_, rfl⟩; replace H : ((impl_withLots.f l0 a1 a2 y1075).bind fun t1076 => (some (t1076, 0))) = some (r1, r2) := rh_ hy1075 H; have Ny1075 := Aside0.mk hy1075; clear hy1075; replace H := Option.bind_eq_some_iff.mp H; obtain ⟨t1076, A660, H⟩ := H; have A66 := Aside0.mk A660; clear A660; simp only [Option.some.injEq, Prod.mk.injEq] at H; obtain ⟨rfl, rfl⟩ := H; obtain ⟨Ao67, co67, eo67⟩ := Kd.R_slice HO_17.out; subst eo67; have p1074 : 0 ≤ (0 : Int) := (by omega)
                 have q1074 : 0 < (x17_4.length : Int) := od_; obtain ⟨ad1074, e1074, hx1074_0, hx1074_1, hx1074_2, hx1074_3, hx1074_4⟩ := at_T37 (Kd.R_reads' HO_17.out).2.2 0 p1074 q1074; cases e1074; have qi1074 : (0 < x17_4.length) = True := eq_true (by omega)
                 (try rw [show ((0 : Int)).toNat = 0 from rfl] at hx1074_0)
                 (try rw [show 0 * 5 = 0 from rfl] at hx1074_0)
                 (try rw [Addr.add_zero'] at hx1074_0)
                 (try rw [show ((0 : Int)).toNat = 0 from rfl] at hx1074_1)
                 (try rw [show 0 * 5 = 0 from rfl] at hx1074_1)
                 (try rw [Addr.add_zero'] at hx1074_1)
                 (try rw [show ((0 : Int)).toNat = 0 from rfl] at hx1074_2)
                 (try rw [show 0 * 5 = 0 from rfl] at hx1074_2)
                 (try rw [Addr.add_zero'] at hx1074_2)
                 (try rw [show ((0 : Int)).toNat = 0 from rfl] at hx1074_3)
                 (try rw [show 0 * 5 = 0 from rfl] at hx1074_3)
                 (try rw [Addr.add_zero'] at hx1074_3)
                 (try rw [show ((0 : Int)).toNat = 0 from rfl] at hx1074_4)
                 (try rw [show 0 * 5 = 0 from rfl] at hx1074_4)
                 (try rw [Addr.add_zero'] at hx1074_4)
                 replace p1074 := eq_true p1074; replace q1074 := eq_true q1074; have p65 : 0 ≤ (0 : Int) := (by omega)
                 have q65 : (0 : Int) < ((x17_4.length : Int) : Int) := od_; have qi65 : (0 < x17_4.length) = True := eq_true (by omega)
                 obtain ⟨go65, co65, eo65, gb65, gl65, cl65, HG65⟩ := Kd.R_form HO_17.out (by omega)
                 (first | cases eo65 | (injection eo65 with ea_ en_ ec_; (first | subst ea_ | (injection ea_ with ea_; subst ea_)); subst ec_; clear en_))
                 have GB65 := Aside0.mk gb65; have GG65 := Aside0.mk HG65; clear gb65 gl65 HG65; (first | simp only [add_plain] at hx1074_0 | skip)
                 (first | simp only [add_plain] at hx1074_1 | skip)
                 (first | simp only [add_plain] at hx1074_2 | skip)
                 (first | simp only [add_plain] at hx1074_3 | skip)
                 (first | simp only [add_plain] at hx1074_4 | skip)
                 obtain ⟨ce65, hcl65, hM65, hcc65, hfr65⟩ := Kd.R_elem HO_17.out z37 (0 : Int) p65 q65; obtain rfl := k37_openM hM65; have hx65_0 : wr.cell? ⟨go65, (0 : Int).toNat * 5, none⟩ = some (.int .i64 ((rd_T37 x17_4 0).f0)) := hcc65 0 _ rfl; have hx65_1 : wr.cell? ⟨go65, (0 : Int).toNat * 5 + 1, none⟩ = some (.int .i64 ((rd_T37 x17_4 0).f1)) := hcc65 1 _ rfl; have hx65_2 : wr.cell? ⟨go65, (0 : Int).toNat * 5 + 2, none⟩ = some (.int .i64 ((rd_T37 x17_4 0).f2)) := hcc65 2 _ rfl; have hx65_3 : wr.cell? ⟨go65, (0 : Int).toNat * 5 + 3, none⟩ = some (.int .i64 ((rd_T37 x17_4 0).f3)) := hcc65 3 _ rfl; have hx65_4 : wr.cell? ⟨go65, (0 : Int).toNat * 5 + 4, none⟩ = some (.int .i64 ((rd_T37 x17_4 0).f4)) := hcc65 4 _ rfl; have hf65_0 : wr.frozen? ⟨go65, (0 : Int).toNat * 5, none⟩ = false := hfr65 0; have hf65_1 : wr.frozen? ⟨go65, (0 : Int).toNat * 5 + 1, none⟩ = false := hfr65 1; have hf65_2 : wr.frozen? ⟨go65, (0 : Int).toNat * 5 + 2, none⟩ = false := hfr65 2; have hf65_3 : wr.frozen? ⟨go65, (0 : Int).toNat * 5 + 3, none⟩ = false := hfr65 3; have hf65_4 : wr.frozen? ⟨go65, (0 : Int).toNat * 5 + 4, none⟩ = false := hfr65 4; clear hcl65 hcc65 hfr65 hM65; (try rw [show ((0 : Int)).toNat = 0 from rfl] at hx65_0)
                 (try simp only [Nat.reduceMul, Nat.zero_mul, Nat.zero_add, Nat.reduceAdd] at hx65_0)
                 (try rw [show ((0 : Int)).toNat = 0 from rfl] at hf65_0)
                 (try simp only [Nat.reduceMul, Nat.zero_mul, Nat.zero_add, Nat.reduceAdd] at hf65_0)
                 (try rw [show ((0 : Int)).toNat = 0 from rfl] at hx65_1)
                 (try simp only [Nat.reduceMul, Nat.zero_mul, Nat.zero_add, Nat.reduceAdd] at hx65_1)
                 (try rw [show ((0 : Int)).toNat = 0 from rfl] at hf65_1)
                 (try simp only [Nat.reduceMul, Nat.zero_mul, Nat.zero_add, Nat.reduceAdd] at hf65_1)
                 (try rw [show ((0 : Int)).toNat = 0 from rfl] at hx65_2)
                 (try simp only [Nat.reduceMul, Nat.zero_mul, Nat.zero_add, Nat.reduceAdd] at hx65_2)
                 (try rw [show ((0 : Int)).toNat = 0 from rfl] at hf65_2)
                 (try simp only [Nat.reduceMul, Nat.zero_mul, Nat.zero_add, Nat.reduceAdd] at hf65_2)
                 (try rw [show ((0 : Int)).toNat = 0 from rfl] at hx65_3)
                 (try simp only [Nat.reduceMul, Nat.zero_mul, Nat.zero_add, Nat.reduceAdd] at hx65_3)
                 (try rw [show ((0 : Int)).toNat = 0 from rfl] at hf65_3)
                 (try simp only [Nat.reduceMul, Nat.zero_mul, Nat.zero_add, Nat.reduceAdd] at hf65_3)
                 (try rw [show ((0 : Int)).toNat = 0 from rfl] at hx65_4)
                 (try simp only [Nat.reduceMul, Nat.zero_mul, Nat.zero_add, Nat.reduceAdd] at hx65_4)
                 (try rw [show ((0 : Int)).toNat = 0 from rfl] at hf65_4)
                 (try simp only [Nat.reduceMul, Nat.zero_mul, Nat.zero_add, Nat.reduceAdd] at hf65_4)
                 replace p65 := eq_true p65; replace q65 := eq_true q65; have HX68 := Aside0.mk (show Kd.R k37 37 wr w.heap.size (fun k_ => some k_ ≠ (.slice Ao25 t1050.length co25 : Value).ownBlock) (.slice (some ⟨go65, 0, none⟩) x17_4.length co67) x17_4 from (pe_ HO_17.out)); obtain ⟨ce68, hcl68, hM68, hcc68, hfr68⟩ := Kd.R_elem HX68.out z37 (0 : Int) (by omega) (by have h_ : (0 : Int) < ((x17_4.length : Int) : Int) := od_; first | exact h_ | (have e_ := (Kd.R_reads' HO_17.out).1; omega) | simpa using h_); obtain rfl := k37_openM hM68; have HP68 := Kd.R_seg HX68.out (0 : Int) (by omega) (by have h_ : (0 : Int) < ((x17_4.length : Int) : Int) := od_; first | exact h_ | (have e_ := (Kd.R_reads' HO_17.out).1; omega) | simpa using h_) (seg := [.int .i64 (wrap64 (((rd_T37 x17_4 0).f4) + x18_4))]) (j := 4) hcl68 hcc68 (show 5 ≤ 5 from by decide) (x' := (⟨(rd_T37 x17_4 0).f0, (rd_T37 x17_4 0).f1, (rd_T37 x17_4 0).f2, (rd_T37 x17_4 0).f3, wrap64 (((rd_T37 x17_4 0).f4) + x18_4)⟩ : S37)) (k37_mkM _ _ _ (⟨(rd_T37 x17_4 0).f0, (rd_T37 x17_4 0).f1, (rd_T37 x17_4 0).f2, (rd_T37 x17_4 0).f3, wrap64 (((rd_T37 x17_4 0).f4) + x18_4)⟩ : S37) ) (fun _ hk => hk)
                 have hx68_4 := hcc68 4 _ rfl; (try simp only [show (k37).sz = 5 from rfl, Nat.mul_one, Nat.add_zero] at hx68_4)
                 (try rw [show ((0 : Int)).toNat = 0 from rfl] at hx68_4)
                 (try simp only [Nat.reduceMul, Nat.zero_mul, Nat.zero_add, Nat.reduceAdd] at hx68_4)
                 have hf68_4 := hfr68 4; (try simp only [show (k37).sz = 5 from rfl, Nat.mul_one, Nat.add_zero] at hf68_4)
                 (try rw [show ((0 : Int)).toNat = 0 from rfl] at hf68_4)
                 (try simp only [Nat.reduceMul, Nat.zero_mul, Nat.zero_add, Nat.reduceAdd] at hf68_4)
                 clear hcl68 hcc68 hfr68 hM68
                 go_wp2_with (first | ((with_reducible refine gate_store (t := 3) (p := 108) rfl ?_); refine store_event (t := 3) (p := 108) (v := ?vo_w69) (w1 := (wr.setCell ⟨go65, 4, none⟩ (.int .i64 (wrap64 (((rd_T37 x17_4 0).f4) + x18_4))))) ?hg ?ho ?hn ?hr ?_; (case ho => rfl); (case hg => rfl); (case hn => rfl); (case hr => first | (go_simp; done) | (go_simp; rfl)); intro w69 hw; have hg : wr.grownBy w69 (some go65) := (by rw [hw]; exact HP68.2); have hp_ : Kd.R k37 37 w69 w.heap.size (fun k_ => some k_ ≠ (.slice Ao25 t1050.length co25 : Value).ownBlock) (.slice (some ⟨go65, 0, none⟩) x17_4.length co67) y1075 := (by rw [hw, Ny1075.out]; exact HP68.1); clear HP68; have n_ := as4_ (Kd.R_over' (v := (.slice (some ⟨go65, 0, none⟩) x17_4.length co67)) (pe_ HO_15.out) (Kd.R_typed HO_17.out) (by decide) hg) (hp_) (Kd.R_after (v := (.slice (some ⟨go65, 0, none⟩) x17_4.length co67)) (v1 := (.slice (some ⟨go65, 0, none⟩) x17_4.length co67)) (ok := (fun _ => True)) (by (with_reducible repeat (first | apply Kd.R_alloc | apply Kd.R_drewN | apply Kd.R_drew)); exact Kd.R_mono HO_74.out (fun _ hk => ⟨trivial, hk⟩)) hg (.inl rfl)) ((by rw [hw]; exact below_set (HB.out) GB65.out : Below w.heap.size w w69)); clear HO_15 HO_17 HO_74 HB; obtain ⟨HO_15, HO_17, HO_74, HB⟩ := n_; clear hg hw hp_) | ((with_reducible refine gate_callee (f := 69) rfl ?_); refine goesL_ (some 113) rfl rfl Try.func69 kr_ rfl #[.slice A0 l0.length c0, .int .i64 a1, .int .i64 a2, .slice (some ⟨go65, 0, none⟩) y1075.length co67] rfl (by (try simp only [List.map_toArray, List.map_cons, List.map_nil]); first | done | (rw [show y1075.length = x17_4.length from (Kd.R_reads' HO_17.out).1.symm] <;> rfl) | rfl | (simp only [List.length_drop, List.length_take]; rfl)) ?_; (with_reducible refine (impl_withLots.calls _ _ l0 a1 a2 _ _ y1075 t1076 _ ?side1 ?side2 ?side3 ?side4 A66.out).mono ?_); (case side1 => exact cc_ (Kd.C_below HR0.out HB.out)); (case side2 => exact HC0.out); (case side3 => exact cc_ (Kd.R_reads' HO_17.out).2.2); (case side4 => rw [show y1075.length = x17_4.length from (Kd.R_reads' HO_17.out).1.symm]; exact (Kd.R_reads' HO_17.out).2.1); rintro e w70 ⟨v1077, rfl, ho0, hb⟩; refine ⟨_, rfl, ?_⟩; have n_ := as5_ (Kd.R_below (pe_ HO_15.out) hb) (Kd.R_elder' (pe_ HO_17.out) (Kd.R_base ho0) hb) (Kd.R_elder' (pe_ HO_74.out) (Kd.R_base ho0) hb) (Kd.R_lower (Kd.R_new' (Kd.R_new' ho0 (Kd.R_lt (pe_ HO_17.out))) (Kd.R_lt (pe_ HO_74.out))) (below_size (bb_))) (below_step (bb_) hb); clear HO_15 HO_17 HO_74 HB; obtain ⟨HO_15, HO_17, HO_74, HO1078, HB⟩ := n_; (try clear hb); (try clear ho0)))
                 go_ret2; exact ⟨_, er_, by (with_reducible repeat (first | apply Kd.R_alloc | apply Kd.R_drewN | apply Kd.R_drew)); exact Kd.R_mono HO1078.out (fun _ hk => trivial), bb_⟩
                ·
                 rw [if_neg c64] at H; exact absurd H (by simp)
               ·
                rw [if_neg c63] at H; have c63b0 : decide (0 < (x17_4.length : Int)) = false := decide_eq_false c63; have c63b1 : decide (0 < x17_4.length) = false := decide_eq_false (by omega)
                clear c63; replace H := Option.bind_eq_some_iff.mp H; obtain ⟨t1079, A710, H⟩ := H; have A71 := Aside0.mk A710; clear A710; simp only [Option.some.injEq, Prod.mk.injEq] at H; obtain ⟨rfl, rfl⟩ := H; obtain ⟨Ao72, co72, eo72⟩ := Kd.R_slice HO_17.out; subst eo72; go_wp2_with (first | ((with_reducible refine gate_callee (f := 69) rfl ?_); refine goesL_ (some 113) rfl rfl Try.func69 kr_ rfl #[.slice A0 l0.length c0, .int .i64 a1, .int .i64 a2, .slice Ao72 x17_4.length co72] rfl (bc_) ?_; (with_reducible refine (impl_withLots.calls _ _ l0 a1 a2 _ _ x17_4 t1079 _ ?side1 ?side2 ?side3 ?side4 A71.out).mono ?_); (case side1 => exact cc_ (Kd.C_below HR0.out HB.out)); (case side2 => exact HC0.out); (case side3 => exact cc_ (Kd.R_reads' HO_17.out).2.2); (case side4 => exact (Kd.R_reads' HO_17.out).2.1); rintro e w73 ⟨v1080, rfl, ho0, hb⟩; refine ⟨_, rfl, ?_⟩; have n_ := as5_ (Kd.R_below (pe_ HO_15.out) hb) (Kd.R_elder' (pe_ HO_17.out) (Kd.R_base ho0) hb) (Kd.R_elder' (pe_ HO_74.out) (Kd.R_base ho0) hb) (Kd.R_lower (Kd.R_new' (Kd.R_new' ho0 (Kd.R_lt (pe_ HO_17.out))) (Kd.R_lt (pe_ HO_74.out))) (below_size (bb_))) (below_step (bb_) hb); clear HO_15 HO_17 HO_74 HB; obtain ⟨HO_15, HO_17, HO_74, HO1081, HB⟩ := n_; (try clear hb); (try clear ho0)))
                go_ret2; exact ⟨_, er_, by (with_reducible repeat (first | apply Kd.R_alloc | apply Kd.R_drewN | apply Kd.R_drew)); exact Kd.R_mono HO1081.out (fun _ hk => trivial), bb_⟩
end Go.Proofs.Ytomanpmffjkkgaa.P
namespace Go.Proofs.Ytomanpmffjkkgaa.P
open Go.RowKit Go.Proofs.YtomanpmffjkkgaaW.PrintWords Go.Proofs.YtomanpmffjkkgaaW.PrintLast Go.Proofs.YtomanpmffjkkgaaW.PrintMore
attribute [local go_sem] max2_int min2_int max_two min_two max_three min_three max_four min_four   -- for this text's walks alone
set_option linter.unusedVariables false
set_option linter.unusedSimpArgs false
def spec_DrawLotsScale.f (k : Nat) (l0 : List Int) : Option ((List (S37)) × Int × Int × Int) := (spec_l5DrawKey.f k l0).bind fun bt1117 => ((spec_l1New.f k l0).bind fun bt1122 => ((spec_LotsQty.f k bt1117.1 bt1117.2.1 bt1117.2.2).bind fun t1126 => ((spec_l1PickInt.f bt1122.1 bt1122.2.1 bt1122.2.2 (([0, 1, wrap64 (Int.tdiv t1126 2), t1126, wrap64 (2 * t1126), wrap64 (Int.tdiv t1126 3), wrap64 (Int.tdiv (wrap64 (3 * t1126)) 2), (-1), 1000000000000000, 1000000000000001] : List Int))).bind fun bt1130 => (some (bt1117.1, bt1117.2.1, bt1117.2.2, bt1130.1)))))
set_option maxHeartbeats 8000000 in
set_option maxRecDepth 100000 in
theorem spec_DrawLotsScale.calls (k : Nat) (A0 : Option Addr) (c0 : Nat) (l0 : List Int) (r1 : List (S37)) (r2 : Int) (r3 : Int) (r4 : Int) (w : World) (hr0 : Kd.C (Kd.int .u8) w A0 l0.length l0) (hc0 : l0.length ≤ c0) (h : spec_DrawLotsScale.f k l0 = some (r1, r2, r3, r4)) :
 Calls Try.prog 38 #[.slice A0 l0.length c0] w fun e w' => ∃ v0_ : Value, e = .returned (.tuple #[v0_, .int .i64 r2, .int .i64 r3, .int .i64 r4]) ∧ Kd.R k37 37 w' w.heap.size (fun _ => True) v0_ r1 ∧ Below w.heap.size w w' := by
 have HR0 := Aside0.mk hr0; have HC0 := Aside0.mk hc0; clear hr0 hc0; have HB := Aside0.mk (Below.refl w.heap.size w); have H : ((spec_l5DrawKey.f k l0).bind fun bt1117 => ((spec_l1New.f k l0).bind fun bt1122 => ((spec_LotsQty.f k bt1117.1 bt1117.2.1 bt1117.2.2).bind fun t1126 => ((spec_l1PickInt.f bt1122.1 bt1122.2.1 bt1122.2.2 (([0, 1, wrap64 (Int.tdiv t1126 2), t1126, wrap64 (2 * t1126), wrap64 (Int.tdiv t1126 3), wrap64 (Int.tdiv (wrap64 (3 * t1126)) 2), (-1), 1000000000000000, 1000000000000001] : List Int))).bind fun bt1130 => (some (bt1117.1, bt1117.2.1, bt1117.2.2, bt1130.1)))))) = some (r1, r2, r3, r4) := h; clear h; replace H := Option.bind_eq_some_iff.mp H; obtain ⟨⟨t1117, t1118, t1119⟩, A20, H⟩ := H; replace H : ((spec_l1New.f k l0).bind fun bt1122 => ((spec_LotsQty.f k t1117 t1118 t1119).bind fun t1126 => ((spec_l1PickInt.f bt1122.1 bt1122.2.1 bt1122.2.2 (([0, 1, wrap64 (Int.tdiv t1126 2), t1126, wrap64 (2 * t1126), wrap64 (Int.tdiv t1126 3), wrap64 (Int.tdiv (wrap64 (3 * t1126)) 2), (-1), 1000000000000000, 1000000000000001] : List Int))).bind fun bt1130 => (some (t1117, t1118, t1119, bt1130.1))))) = some (r1, r2, r3, r4) := H; have A2 := Aside0.mk A20; clear A20; replace H := Option.bind_eq_some_iff.mp H; obtain ⟨⟨t1122, t1123, t1124⟩, A30, H⟩ := H
 replace H : ((spec_LotsQty.f k t1117 t1118 t1119).bind fun t1126 => ((spec_l1PickInt.f t1122 t1123 t1124 (([0, 1, wrap64 (Int.tdiv t1126 2), t1126, wrap64 (2 * t1126), wrap64 (Int.tdiv t1126 3), wrap64 (Int.tdiv (wrap64 (3 * t1126)) 2), (-1), 1000000000000000, 1000000000000001] : List Int))).bind fun bt1130 => (some (t1117, t1118, t1119, bt1130.1)))) = some (r1, r2, r3, r4) := H; have A3 := Aside0.mk A30; clear A30; replace H := Option.bind_eq_some_iff.mp H; obtain ⟨t1126, A40, H⟩ := H; have A4 := Aside0.mk A40; clear A40; obtain ⟨y1127, hy1127⟩ : ∃ y_ : List Int, y_ = (([0, 1, wrap64 (Int.tdiv t1126 2), t1126, wrap64 (2 * t1126), wrap64 (Int.tdiv t1126 3), wrap64 (Int.tdiv (wrap64 (3 * t1126)) 2), (-1), 1000000000000000, 1000000000000001] : List Int)) := ⟨_, rfl⟩; replace H : ((spec_l1PickInt.f t1122 t1123 t1124 y1127).bind fun bt1130 => (some (t1117, t1118, t1119, bt1130.1))) = some (r1, r2, r3, r4) := rh_ hy1127 H; have Ny1127 := Aside0.mk hy1127; clear hy1127; replace H := Option.bind_eq_some_iff.mp H; obtain ⟨⟨t1130, t1131, t1132⟩, A50, H⟩ := H; replace H : (some (t1117, t1118, t1119, t1130)) = some (r1, r2, r3, r4) := H; have A5 := Aside0.mk A50; clear A50; simp only [Option.some.injEq, Prod.mk.injEq] at H; obtain ⟨rfl, rfl, rfl, rfl⟩ := H; go_enter Try.func38, Try.ntmps38
 go_wp2_with (first | ((with_reducible refine gate_callee (f := 70) rfl ?_); refine goesL_ (some 13) rfl rfl Try.func70 kr_ rfl #[.slice A0 l0.length c0] rfl (bc_) ?_; (with_reducible refine (spec_l5DrawKey.calls k _ _ l0 t1117 t1118 t1119 _ ?side1 ?side2 A2.out).mono ?_); (case side1 => exact cc_ HR0.out); (case side2 => exact HC0.out); rintro e w6 ⟨v1120, rfl, ho0, hb⟩; refine ⟨_, rfl, ?_⟩; have n_ := as2_ (Kd.R_lower ho0 (below_size (bb_))) (below_step (bb_) hb); clear HB; obtain ⟨HO1121, HB⟩ := n_; (try clear hb); (try clear ho0)) | ((with_reducible refine gate_callee (f := 56) rfl ?_); refine goesL_ (some 18) rfl rfl Try.func56 kr_ rfl #[.slice A0 l0.length c0] rfl (bc_) ?_; (with_reducible refine (spec_l1New.calls k _ _ l0 t1122 t1123 t1124 w _ ?side1 ?side2 ?side3 A3.out).mono ?_); (case side1 => repeat (first | (with_reducible first | exact HB.out | apply below_alloc | apply pw_below_drewN | apply below_drew1) | exact HB.out)); (case side2 => exact HR0.out); (case side3 => exact HC0.out); rintro e w7 ⟨g1125, rfl, hi, hb, hb2⟩; refine ⟨_, rfl, ?_⟩; have n_ := as3_ (Kd.R_below (pe_ HO1121.out) hb2) (hb) (hi); clear HO1121 HB; obtain ⟨HO1121, HB, HI1125⟩ := n_; (try clear hb); (try clear hb2); (try clear hi); obtain ⟨Ao8, co8, eo8⟩ := Kd.R_slice HO1121.out; subst eo8) | ((with_reducible refine gate_callee (f := 19) rfl ?_); refine goesL_ (some 22) rfl rfl Try.func19 kr_ rfl #[.slice Ao8 t1117.length co8, .int .i64 t1118, .int .i64 t1119] rfl (bc_) ?_; (with_reducible refine (spec_LotsQty.calls k _ _ t1117 t1118 t1119 t1126 _ ?side1 ?side2 A4.out).mono ?_); (case side1 => exact cc_ (Kd.R_reads' HO1121.out).2.2); (case side2 => exact (Kd.R_reads' HO1121.out).2.1); rintro e w9 ⟨rfl, hb⟩; refine ⟨_, rfl, ?_⟩; have n_ := as3_ (Kd.R_below (pe_ HO1121.out) hb) (IsS91.below (is91_ HI1125.out) hb) (below_step (bg_ (IsS91.ge HI1125.out)) hb); clear HO1121 HI1125 HB; obtain ⟨HO1121, HI1125, HB⟩ := n_; (try clear hb)) | ((with_reducible refine gate_dst (N := 37) rfl ?_); refine Kd.R_lit (Kd.int .i64) _ 3 ?hg (N := 37) ?hd (xs := ([0, 1, wrap64 (Int.tdiv t1126 2), t1126, wrap64 (2 * t1126), wrap64 (Int.tdiv t1126 3), wrap64 (Int.tdiv (wrap64 (3 * t1126)) 2), (-1), 1000000000000000, 1000000000000001] : List Int)) (inner := [.int .i64 0, .int .i64 1, .int .i64 (wrap64 (Int.tdiv t1126 2)), .int .i64 t1126, .int .i64 (wrap64 (2 * t1126)), .int .i64 (wrap64 (Int.tdiv t1126 3)), .int .i64 (wrap64 (Int.tdiv (wrap64 (3 * t1126)) 2)), .int .i64 (-1), .int .i64 1000000000000000, .int .i64 1000000000000001]) (ok := fun _ => True) (okp := fun _ => True) ?hr ?hp (fun _ hk => hk) trivial (Below.refl _ _) (Nat.le_refl _) (by simp) ?_; (case hd => rfl); (case hg => rfl); (case hr => first | (go_simp; done) | (go_simp; rfl)); (case hp => exact (Reps.one (show Kd.M (Kd.int .i64) _ _ _ 0 [.int .i64 0] from rfl) (Reps.one (show Kd.M (Kd.int .i64) _ _ _ 1 [.int .i64 1] from rfl) (Reps.one (show Kd.M (Kd.int .i64) _ _ _ (wrap64 (Int.tdiv t1126 2)) [.int .i64 (wrap64 (Int.tdiv t1126 2))] from rfl) (Reps.one (show Kd.M (Kd.int .i64) _ _ _ t1126 [.int .i64 t1126] from rfl) (Reps.one (show Kd.M (Kd.int .i64) _ _ _ (wrap64 (2 * t1126)) [.int .i64 (wrap64 (2 * t1126))] from rfl) (Reps.one (show Kd.M (Kd.int .i64) _ _ _ (wrap64 (Int.tdiv t1126 3)) [.int .i64 (wrap64 (Int.tdiv t1126 3))] from rfl) (Reps.one (show Kd.M (Kd.int .i64) _ _ _ (wrap64 (Int.tdiv (wrap64 (3 * t1126)) 2)) [.int .i64 (wrap64 (Int.tdiv (wrap64 (3 * t1126)) 2))] from rfl) (Reps.one (show Kd.M (Kd.int .i64) _ _ _ (-1) [.int .i64 (-1)] from rfl) (Reps.one (show Kd.M (Kd.int .i64) _ _ _ 1000000000000000 [.int .i64 1000000000000000] from rfl) (Reps.one (show Kd.M (Kd.int .i64) _ _ _ 1000000000000001 [.int .i64 1000000000000001] from rfl) (Reps.none _ _)))))))))))); intro v1128 w10 ho11 hb hg_ hnew_; clear hg_ hnew_; (first | rw [← Ny1127.out] at ho11 | (simp only [Int.reduceToNat] at ho11; rw [← Ny1127.out] at ho11)); have n_ := as4_ (Kd.R_below (pe_ HO1121.out) hb) (Kd.R_lower ho11 (below_size (bg_ (IsS91.ge HI1125.out)))) (IsS91.below (is91_ HI1125.out) hb) (below_step (bg_ (IsS91.ge HI1125.out)) hb); clear HO1121 HI1125 HB; obtain ⟨HO1121, HO1129, HI1125, HB⟩ := n_; clear hb ho11; obtain ⟨Ao12, co12, eo12⟩ := Kd.R_slice HO1129.out; subst eo12) | ((with_reducible refine gate_callee (f := 59) rfl ?_); refine goesL_ (some 38) rfl rfl Try.func59 kr_ rfl #[.pointer (some ⟨g1125, 0, none⟩), .slice Ao12 y1127.length co12] rfl (bc_) ?_; (with_reducible refine (spec_l1PickInt.calls g1125 t1122 t1123 t1124 _ _ y1127 t1130 t1131 t1132 w _ ?side1 ?side2 ?side3 ?side4 ?side5 A5.out).mono ?_); (case side1 => repeat (first | (with_reducible first | exact HI1125.out | apply IsS91.alloc | apply IsS91.drewN | apply IsS91.drew | apply IsS91.set_1 | apply IsS91.set_2) | exact HI1125.out)); (case side2 => repeat (first | (with_reducible first | exact HB.out | apply below_alloc | apply pw_below_drewN | apply below_drew1 | refine below_set ?_ (IsS91.ge HI1125.out)) | exact HB.out)); (case side3 => exact cc_ (Kd.R_reads' HO1129.out).2.2); (case side4 => exact (Kd.R_reads' HO1129.out).2.1); (case side5 => exact far_slice (IsS91.own_ne HI1125.out HO1129.out (by decide))); rintro e w13 ⟨rfl, hi, hb, hk⟩; refine ⟨_, rfl, ?_⟩; have n_ := as4_ (Kd.R_mono (Kd.R_keep (IsS91.apart (show IsS91 w _ g1125 t1122 t1123 t1124 from is91_ HI1125.out) (pe_ HO1121.out) (by decide)) hk (fun _ h => h.2)) (fun _ h => h.1)) (Kd.R_mono (Kd.R_keep (IsS91.apart (show IsS91 w _ g1125 t1122 t1123 t1124 from is91_ HI1125.out) (pe_ HO1129.out) (by decide)) hk (fun _ h => h.2)) (fun _ h => h.1)) (hb) (hi); clear HO1121 HO1129 HB HI1125; obtain ⟨HO1121, HO1129, HB, HI1125⟩ := n_; (try clear hb); (try clear hk); (try clear hi)))
 refine bodyPost_ret (results_list (rs := [.tmp 2, .tmp 3, .tmp 4, .tmp 5]) rfl (by simp) (.tmp (.tmp (.tmp (.tmp .nil))))) rfl ?_
 exact ⟨_, er_, pe_ HO1121.out, bg_ (IsS91.ge HI1125.out)⟩
def laws_FnScaled.f (k : Nat) (l0 : List Int) : Option (Bool) := (laws_big.f l0).bind fun t1133 => (if t1133 = true then (some true) else ((spec_DrawLotsScale.f k l0).bind fun bt1134 => ((impl_LotsScale.f k bt1134.1 bt1134.2.1 bt1134.2.2.1 bt1134.2.2.2).bind fun bt1140 => ((spec_LotsScale.f k bt1134.1 bt1134.2.1 bt1134.2.2.1 bt1134.2.2.2).bind fun bt1144 => (if bt1140.2 = bt1144.2 then (if bt1140.2 = 1 then (some ((bt1140.1.length : Int) == 0)) else (if bt1140.2 = 0 then ((impl_LotsOf.f bt1140.1 bt1134.2.1 bt1134.2.2.1).bind fun t1149 => ((impl_LotsQty.f k bt1140.1 bt1134.2.1 bt1134.2.2.1).bind fun t1152 => (if t1152 = bt1134.2.2.2 then ((impl_LotsOk.f bt1140.1).bind fun t1153 => (if t1153 = true then ((spec_LotsOf.f k bt1134.1 bt1134.2.1 bt1134.2.2.1).bind fun t1154 => (if (t1149.length : Int) ≤ (t1154.length : Int) then (if (t1149.length : Int) = 0 then (some true) else ((impl_LotsCost.f k bt1140.1 bt1134.2.1 bt1134.2.2.1).bind fun t1157 => ((spec_LotsCost.f k bt1134.1 bt1134.2.1 bt1134.2.2.1).bind fun t1158 => (some (t1157 == t1158))))) else (none))) else (none))) else (none)))) else ((laws_sameLots.f k bt1140.1 bt1134.1).bind fun t1148 => (some t1148)))) else (none))))))
set_option maxHeartbeats 8000000 in
set_option maxRecDepth 100000 in
theorem laws_FnScaled.calls (k : Nat) (A0 : Option Addr) (c0 : Nat) (l0 : List Int) (r : Bool) (w : World) (hr0 : Kd.C (Kd.int .u8) w A0 l0.length l0) (hc0 : l0.length ≤ c0) (h : laws_FnScaled.f k l0 = some r) :
 Calls Try.prog 13 #[.slice A0 l0.length c0] w fun e w' => e = .returned (.bool r) ∧ Below w.heap.size w w' := by
 have HR0 := Aside0.mk hr0; have HC0 := Aside0.mk hc0; clear hr0 hc0; have HB := Aside0.mk (Below.refl w.heap.size w); have H : ((laws_big.f l0).bind fun t1133 => (if t1133 = true then (some true) else ((spec_DrawLotsScale.f k l0).bind fun bt1134 => ((impl_LotsScale.f k bt1134.1 bt1134.2.1 bt1134.2.2.1 bt1134.2.2.2).bind fun bt1140 => ((spec_LotsScale.f k bt1134.1 bt1134.2.1 bt1134.2.2.1 bt1134.2.2.2).bind fun bt1144 => (if bt1140.2 = bt1144.2 then (if bt1140.2 = 1 then (some ((bt1140.1.length : Int) == 0)) else (if bt1140.2 = 0 then ((impl_LotsOf.f bt1140.1 bt1134.2.1 bt1134.2.2.1).bind fun t1149 => ((impl_LotsQty.f k bt1140.1 bt1134.2.1 bt1134.2.2.1).bind fun t1152 => (if t1152 = bt1134.2.2.2 then ((impl_LotsOk.f bt1140.1).bind fun t1153 => (if t1153 = true then ((spec_LotsOf.f k bt1134.1 bt1134.2.1 bt1134.2.2.1).bind fun t1154 => (if (t1149.length : Int) ≤ (t1154.length : Int) then (if (t1149.length : Int) = 0 then (some true) else ((impl_LotsCost.f k bt1140.1 bt1134.2.1 bt1134.2.2.1).bind fun t1157 => ((spec_LotsCost.f k bt1134.1 bt1134.2.1 bt1134.2.2.1).bind fun t1158 => (some (t1157 == t1158))))) else (none))) else (none))) else (none)))) else ((laws_sameLots.f k bt1140.1 bt1134.1).bind fun t1148 => (some t1148)))) else (none))))))) = some r := h; clear h; replace H := Option.bind_eq_some_iff.mp H; obtain ⟨t1133, A20, H⟩ := H; have A2 := Aside0.mk A20; clear A20
 by_cases c3 : t1133 = true
 ·
  subst c3; replace H := Eq.trans (if_pos rfl).symm H; obtain rfl := Option.some.inj H; go_enter Try.func13, Try.ntmps13; go_wp2_with (first | ((with_reducible refine gate_callee (f := 30) rfl ?_); refine goesL_ (some 13) rfl rfl Try.func30 kr_ rfl #[.slice A0 l0.length c0] rfl (bc_) ?_; (with_reducible refine (laws_big.calls _ _ l0 true _ ?side1 ?side2 A2.out).mono ?_); (case side1 => exact cc_ HR0.out); (case side2 => exact HC0.out); rintro e w' ⟨rfl, ⟨nd, rfl⟩⟩; refine ⟨_, rfl, ?_⟩))
  go_ret; exact ⟨er_, bb_⟩
 ·
  replace c3 := Bool.eq_false_iff.mpr c3; subst c3; replace H := Eq.trans (if_neg nf_).symm H; replace H := Option.bind_eq_some_iff.mp H; obtain ⟨⟨t1134, t1135, t1136, t1137⟩, A40, H⟩ := H; replace H : ((impl_LotsScale.f k t1134 t1135 t1136 t1137).bind fun bt1140 => ((spec_LotsScale.f k t1134 t1135 t1136 t1137).bind fun bt1144 => (if bt1140.2 = bt1144.2 then (if bt1140.2 = 1 then (some ((bt1140.1.length : Int) == 0)) else (if bt1140.2 = 0 then ((impl_LotsOf.f bt1140.1 t1135 t1136).bind fun t1149 => ((impl_LotsQty.f k bt1140.1 t1135 t1136).bind fun t1152 => (if t1152 = t1137 then ((impl_LotsOk.f bt1140.1).bind fun t1153 => (if t1153 = true then ((spec_LotsOf.f k t1134 t1135 t1136).bind fun t1154 => (if (t1149.length : Int) ≤ (t1154.length : Int) then (if (t1149.length : Int) = 0 then (some true) else ((impl_LotsCost.f k bt1140.1 t1135 t1136).bind fun t1157 => ((spec_LotsCost.f k t1134 t1135 t1136).bind fun t1158 => (some (t1157 == t1158))))) else (none))) else (none))) else (none)))) else ((laws_sameLots.f k bt1140.1 t1134).bind fun t1148 => (some t1148)))) else (none)))) = some r := H; have A4 := Aside0.mk A40; clear A40; replace H := Option.bind_eq_some_iff.mp H; obtain ⟨⟨t1140, t1141⟩, A50, H⟩ := H
  replace H : ((spec_LotsScale.f k t1134 t1135 t1136 t1137).bind fun bt1144 => (if t1141 = bt1144.2 then (if t1141 = 1 then (some ((t1140.length : Int) == 0)) else (if t1141 = 0 then ((impl_LotsOf.f t1140 t1135 t1136).bind fun t1149 => ((impl_LotsQty.f k t1140 t1135 t1136).bind fun t1152 => (if t1152 = t1137 then ((impl_LotsOk.f t1140).bind fun t1153 => (if t1153 = true then ((spec_LotsOf.f k t1134 t1135 t1136).bind fun t1154 => (if (t1149.length : Int) ≤ (t1154.length : Int) then (if (t1149.length : Int) = 0 then (some true) else ((impl_LotsCost.f k t1140 t1135 t1136).bind fun t1157 => ((spec_LotsCost.f k t1134 t1135 t1136).bind fun t1158 => (some (t1157 == t1158))))) else (none))) else (none))) else (none)))) else ((laws_sameLots.f k t1140 t1134).bind fun t1148 => (some t1148)))) else (none))) = some r := H; have A5 := Aside0.mk A50; clear A50; replace H := Option.bind_eq_some_iff.mp H; obtain ⟨⟨t1144, t1145⟩, A60, H⟩ := H
  replace H : (if t1141 = t1145 then (if t1141 = 1 then (some ((t1140.length : Int) == 0)) else (if t1141 = 0 then ((impl_LotsOf.f t1140 t1135 t1136).bind fun t1149 => ((impl_LotsQty.f k t1140 t1135 t1136).bind fun t1152 => (if t1152 = t1137 then ((impl_LotsOk.f t1140).bind fun t1153 => (if t1153 = true then ((spec_LotsOf.f k t1134 t1135 t1136).bind fun t1154 => (if (t1149.length : Int) ≤ (t1154.length : Int) then (if (t1149.length : Int) = 0 then (some true) else ((impl_LotsCost.f k t1140 t1135 t1136).bind fun t1157 => ((spec_LotsCost.f k t1134 t1135 t1136).bind fun t1158 => (some (t1157 == t1158))))) else (none))) else (none))) else (none)))) else ((laws_sameLots.f k t1140 t1134).bind fun t1148 => (some t1148)))) else (none)) = some r := H; have A6 := Aside0.mk A60; clear A60
  by_cases c7 : t1141 = t1145
  ·
   rw [if_pos c7] at H; have c7b0 : (t1141 == t1145) = true := beq_iff_eq.mpr c7; have c7b1 : (t1141 != t1145) = false := bne_eq_false_iff_eq.mpr c7; clear c7
   by_cases c8 : t1141 = 1
   ·
    rw [if_pos c8] at H; have c8b0 : (t1141 == 1) = true := beq_iff_eq.mpr c8; have c8b1 : (t1141 != 1) = false := bne_eq_false_iff_eq.mpr c8; clear c8; obtain rfl := Option.some.inj H; go_enter Try.func13, Try.ntmps13
    go_wp2_with (first | ((with_reducible refine gate_callee (f := 30) rfl ?_); refine goesL_ (some 13) rfl rfl Try.func30 kr_ rfl #[.slice A0 l0.length c0] rfl (bc_) ?_; (with_reducible refine (laws_big.calls _ _ l0 false _ ?side1 ?side2 A2.out).mono ?_); (case side1 => exact cc_ HR0.out); (case side2 => exact HC0.out); rintro e w' ⟨rfl, ⟨nd, rfl⟩⟩; refine ⟨_, rfl, ?_⟩) | ((with_reducible refine gate_callee (f := 38) rfl ?_); refine goesL_ (some 16) rfl rfl Try.func38 kr_ rfl #[.slice A0 l0.length c0] rfl (bc_) ?_; (with_reducible refine (spec_DrawLotsScale.calls k _ _ l0 t1134 t1135 t1136 t1137 _ ?side1 ?side2 A4.out).mono ?_); (case side1 => exact cc_ HR0.out); (case side2 => exact HC0.out); rintro e w9 ⟨v1138, rfl, ho0, hb⟩; refine ⟨_, rfl, ?_⟩; have n_ := as2_ (Kd.R_lower ho0 (below_size (bb_))) (below_step (bb_) hb); clear HB; obtain ⟨HO1139, HB⟩ := n_; (try clear hb); (try clear ho0); obtain ⟨Ao10, co10, eo10⟩ := Kd.R_slice HO1139.out; subst eo10) | ((with_reducible refine gate_callee (f := 37) rfl ?_); refine goesL_ (some 26) rfl rfl Try.func37 kr_ rfl #[.slice Ao10 t1134.length co10, .int .i64 t1135, .int .i64 t1136, .int .i64 t1137] rfl (bc_) ?_; (with_reducible refine (impl_LotsScale.calls k _ _ t1134 t1135 t1136 t1137 t1140 t1141 _ ?side1 ?side2 A5.out).mono ?_); (case side1 => exact cc_ (Kd.R_reads' HO1139.out).2.2); (case side2 => exact (Kd.R_reads' HO1139.out).2.1); rintro e w11 ⟨v1142, rfl, ho0, hb⟩; refine ⟨_, rfl, ?_⟩; have n_ := as3_ (Kd.R_elder' (pe_ HO1139.out) (Kd.R_base ho0) hb) (Kd.R_lower (Kd.R_new' ho0 (Kd.R_lt (pe_ HO1139.out))) (below_size (bb_))) (below_step (bb_) hb); clear HO1139 HB; obtain ⟨HO1139, HO1143, HB⟩ := n_; (try clear hb); (try clear ho0)) | ((with_reducible refine gate_callee (f := 36) rfl ?_); refine goesL_ (some 34) rfl rfl Try.func36 kr_ rfl #[.slice Ao10 t1134.length co10, .int .i64 t1135, .int .i64 t1136, .int .i64 t1137] rfl (bc_) ?_; (with_reducible refine (spec_LotsScale.calls k _ _ t1134 t1135 t1136 t1137 t1144 t1145 _ ?side1 ?side2 A6.out).mono ?_); (case side1 => exact cc_ (Kd.R_reads' HO1139.out).2.2); (case side2 => exact (Kd.R_reads' HO1139.out).2.1); rintro e w12 ⟨v1146, rfl, ho0, hb⟩; refine ⟨_, rfl, ?_⟩; have n_ := as4_ (Kd.R_elder' (pe_ HO1139.out) (Kd.R_base ho0) hb) (Kd.R_elder' (pe_ HO1143.out) (Kd.R_base ho0) hb) (Kd.R_lower (Kd.R_new' (Kd.R_new' ho0 (Kd.R_lt (pe_ HO1139.out))) (Kd.R_lt (pe_ HO1143.out))) (below_size (bb_))) (below_step (bb_) hb); clear HO1139 HO1143 HB; obtain ⟨HO1139, HO1143, HO1147, HB⟩ := n_; (try clear hb); (try clear ho0); obtain ⟨Ao13, co13, eo13⟩ := Kd.R_slice HO1143.out; subst eo13))
    go_ret; exact ⟨er_, bb_⟩
   ·
    rw [if_neg c8] at H; have c8b0 : (t1141 == 1) = false := beq_eq_false_iff_ne.mpr c8; have c8b1 : (t1141 != 1) = true := bne_iff_ne.mpr c8
    by_cases c14 : t1141 = 0
    ·
     rw [if_pos c14] at H; have c14b0 : (t1141 == 0) = true := beq_iff_eq.mpr c14; have c14b1 : (t1141 != 0) = false := bne_eq_false_iff_eq.mpr c14; clear c14; replace H := Option.bind_eq_some_iff.mp H; obtain ⟨t1149, A150, H⟩ := H; have A15 := Aside0.mk A150; clear A150; replace H := Option.bind_eq_some_iff.mp H; obtain ⟨t1152, A160, H⟩ := H; have A16 := Aside0.mk A160; clear A160
     by_cases c17 : t1152 = t1137
     ·
      rw [if_pos c17] at H; have c17b0 : (t1152 == t1137) = true := beq_iff_eq.mpr c17; have c17b1 : (t1152 != t1137) = false := bne_eq_false_iff_eq.mpr c17; clear c17; replace H := Option.bind_eq_some_iff.mp H; obtain ⟨t1153, A180, H⟩ := H; have A18 := Aside0.mk A180; clear A180
      by_cases c19 : t1153 = true
      ·
       subst c19; replace H := Eq.trans (if_pos rfl).symm H; replace H := Option.bind_eq_some_iff.mp H; obtain ⟨t1154, A200, H⟩ := H; have A20 := Aside0.mk A200; clear A200
       by_cases c21 : (t1149.length : Int) ≤ (t1154.length : Int)
       ·
        rw [if_pos c21] at H; have c21b0 : decide ((t1149.length : Int) ≤ (t1154.length : Int)) = true := decide_eq_true c21; have c21b1 : decide (t1149.length ≤ t1154.length) = true := decide_eq_true (Int.ofNat_le.mp c21); clear c21
        by_cases c22 : (t1149.length : Int) = 0
        ·
         rw [if_pos c22] at H; have c22b0 : ((t1149.length : Int) == 0) = true := beq_iff_eq.mpr c22; have c22b1 : ((t1149.length : Int) != 0) = false := bne_eq_false_iff_eq.mpr c22; clear c22; obtain rfl := Option.some.inj H; go_enter Try.func13, Try.ntmps13
         go_wp2_with (first | ((with_reducible refine gate_callee (f := 30) rfl ?_); refine goesL_ (some 13) rfl rfl Try.func30 kr_ rfl #[.slice A0 l0.length c0] rfl (bc_) ?_; (with_reducible refine (laws_big.calls _ _ l0 false _ ?side1 ?side2 A2.out).mono ?_); (case side1 => exact cc_ HR0.out); (case side2 => exact HC0.out); rintro e w' ⟨rfl, ⟨nd, rfl⟩⟩; refine ⟨_, rfl, ?_⟩) | ((with_reducible refine gate_callee (f := 38) rfl ?_); refine goesL_ (some 16) rfl rfl Try.func38 kr_ rfl #[.slice A0 l0.length c0] rfl (bc_) ?_; (with_reducible refine (spec_DrawLotsScale.calls k _ _ l0 t1134 t1135 t1136 t1137 _ ?side1 ?side2 A4.out).mono ?_); (case side1 => exact cc_ HR0.out); (case side2 => exact HC0.out); rintro e w23 ⟨v1138, rfl, ho0, hb⟩; refine ⟨_, rfl, ?_⟩; have n_ := as2_ (Kd.R_lower ho0 (below_size (bb_))) (below_step (bb_) hb); clear HB; obtain ⟨HO1139, HB⟩ := n_; (try clear hb); (try clear ho0); obtain ⟨Ao24, co24, eo24⟩ := Kd.R_slice HO1139.out; subst eo24) | ((with_reducible refine gate_callee (f := 37) rfl ?_); refine goesL_ (some 26) rfl rfl Try.func37 kr_ rfl #[.slice Ao24 t1134.length co24, .int .i64 t1135, .int .i64 t1136, .int .i64 t1137] rfl (bc_) ?_; (with_reducible refine (impl_LotsScale.calls k _ _ t1134 t1135 t1136 t1137 t1140 t1141 _ ?side1 ?side2 A5.out).mono ?_); (case side1 => exact cc_ (Kd.R_reads' HO1139.out).2.2); (case side2 => exact (Kd.R_reads' HO1139.out).2.1); rintro e w25 ⟨v1142, rfl, ho0, hb⟩; refine ⟨_, rfl, ?_⟩; have n_ := as3_ (Kd.R_elder' (pe_ HO1139.out) (Kd.R_base ho0) hb) (Kd.R_lower (Kd.R_new' ho0 (Kd.R_lt (pe_ HO1139.out))) (below_size (bb_))) (below_step (bb_) hb); clear HO1139 HB; obtain ⟨HO1139, HO1143, HB⟩ := n_; (try clear hb); (try clear ho0)) | ((with_reducible refine gate_callee (f := 36) rfl ?_); refine goesL_ (some 34) rfl rfl Try.func36 kr_ rfl #[.slice Ao24 t1134.length co24, .int .i64 t1135, .int .i64 t1136, .int .i64 t1137] rfl (bc_) ?_; (with_reducible refine (spec_LotsScale.calls k _ _ t1134 t1135 t1136 t1137 t1144 t1145 _ ?side1 ?side2 A6.out).mono ?_); (case side1 => exact cc_ (Kd.R_reads' HO1139.out).2.2); (case side2 => exact (Kd.R_reads' HO1139.out).2.1); rintro e w26 ⟨v1146, rfl, ho0, hb⟩; refine ⟨_, rfl, ?_⟩; have n_ := as4_ (Kd.R_elder' (pe_ HO1139.out) (Kd.R_base ho0) hb) (Kd.R_elder' (pe_ HO1143.out) (Kd.R_base ho0) hb) (Kd.R_lower (Kd.R_new' (Kd.R_new' ho0 (Kd.R_lt (pe_ HO1139.out))) (Kd.R_lt (pe_ HO1143.out))) (below_size (bb_))) (below_step (bb_) hb); clear HO1139 HO1143 HB; obtain ⟨HO1139, HO1143, HO1147, HB⟩ := n_; (try clear hb); (try clear ho0); obtain ⟨Ao27, co27, eo27⟩ := Kd.R_slice HO1143.out; subst eo27) | ((with_reducible refine gate_callee (f := 24) rfl ?_); refine goesL_ (some 53) rfl rfl Try.func24 kr_ rfl #[.slice Ao27 t1140.length co27, .int .i64 t1135, .int .i64 t1136] rfl (bc_) ?_; (with_reducible refine (impl_LotsOf.calls _ _ t1140 t1135 t1136 t1149 _ ?side1 ?side2 A15.out).mono ?_); (case side1 => exact cc_ (Kd.R_reads' HO1143.out).2.2); (case side2 => exact (Kd.R_reads' HO1143.out).2.1); rintro e w28 ⟨v1150, rfl, ho0, hb⟩; refine ⟨_, rfl, ?_⟩; have n_ := as5_ (Kd.R_elder' (pe_ HO1139.out) (Kd.R_base ho0) hb) (Kd.R_elder' (pe_ HO1143.out) (Kd.R_base ho0) hb) (Kd.R_elder' (pe_ HO1147.out) (Kd.R_base ho0) hb) (Kd.R_lower (Kd.R_new' (Kd.R_new' (Kd.R_new' ho0 (Kd.R_lt (pe_ HO1139.out))) (Kd.R_lt (pe_ HO1143.out))) (Kd.R_lt (pe_ HO1147.out))) (below_size (bb_))) (below_step (bb_) hb); clear HO1139 HO1143 HO1147 HB; obtain ⟨HO1139, HO1143, HO1147, HO1151, HB⟩ := n_; (try clear hb); (try clear ho0)) | ((with_reducible refine gate_callee (f := 20) rfl ?_); refine goesL_ (some 57) rfl rfl Try.func20 kr_ rfl #[.slice Ao27 t1140.length co27, .int .i64 t1135, .int .i64 t1136] rfl (bc_) ?_; (with_reducible refine (impl_LotsQty.calls k _ _ t1140 t1135 t1136 t1152 _ ?side1 ?side2 A16.out).mono ?_); (case side1 => exact cc_ (Kd.R_reads' HO1143.out).2.2); (case side2 => exact (Kd.R_reads' HO1143.out).2.1); rintro e w29 ⟨rfl, hb⟩; refine ⟨_, rfl, ?_⟩; have n_ := as5_ (Kd.R_below (pe_ HO1139.out) hb) (Kd.R_below (pe_ HO1143.out) hb) (Kd.R_below (pe_ HO1147.out) hb) (Kd.R_below (pe_ HO1151.out) hb) (below_step (bb_) hb); clear HO1139 HO1143 HO1147 HO1151 HB; obtain ⟨HO1139, HO1143, HO1147, HO1151, HB⟩ := n_; (try clear hb)) | (go_at_call 17; (with_reducible refine (impl_LotsOk.calls _ _ t1140 true _ ?side1 ?side2 A18.out).mono ?_); (case side1 => exact cc_ (Kd.R_reads' HO1143.out).2.2); (case side2 => exact (Kd.R_reads' HO1143.out).2.1); rintro e w30 ⟨rfl, hb⟩; have n_ := as5_ (Kd.R_below (pe_ HO1139.out) hb) (Kd.R_below (pe_ HO1143.out) hb) (Kd.R_below (pe_ HO1147.out) hb) (Kd.R_below (pe_ HO1151.out) hb) (below_step (bb_) hb); clear HO1139 HO1143 HO1147 HO1151 HB; obtain ⟨HO1139, HO1143, HO1147, HO1151, HB⟩ := n_; (try clear hb); obtain ⟨Ao31, co31, eo31⟩ := Kd.R_slice HO1151.out; subst eo31) | (go_at_call 23; (with_reducible refine (spec_LotsOf.calls k _ _ t1134 t1135 t1136 t1154 _ ?side1 ?side2 A20.out).mono ?_); (case side1 => exact cc_ (Kd.R_reads' HO1139.out).2.2); (case side2 => exact (Kd.R_reads' HO1139.out).2.1); rintro e w32 ⟨v1155, rfl, ho0, hb⟩; have n_ := as6_ (Kd.R_elder' (pe_ HO1139.out) (Kd.R_base ho0) hb) (Kd.R_elder' (pe_ HO1143.out) (Kd.R_base ho0) hb) (Kd.R_elder' (pe_ HO1147.out) (Kd.R_base ho0) hb) (Kd.R_elder' (pe_ HO1151.out) (Kd.R_base ho0) hb) (Kd.R_lower (Kd.R_new' (Kd.R_new' (Kd.R_new' (Kd.R_new' ho0 (Kd.R_lt (pe_ HO1139.out))) (Kd.R_lt (pe_ HO1143.out))) (Kd.R_lt (pe_ HO1147.out))) (Kd.R_lt (pe_ HO1151.out))) (below_size (bb_))) (below_step (bb_) hb); clear HO1139 HO1143 HO1147 HO1151 HB; obtain ⟨HO1139, HO1143, HO1147, HO1151, HO1156, HB⟩ := n_; (try clear hb); (try clear ho0); obtain ⟨Ao33, co33, eo33⟩ := Kd.R_slice HO1156.out; subst eo33))
         go_ret; exact ⟨er_, bb_⟩
        ·
         rw [if_neg c22] at H; have c22b0 : ((t1149.length : Int) == 0) = false := beq_eq_false_iff_ne.mpr c22; have c22b1 : ((t1149.length : Int) != 0) = true := bne_iff_ne.mpr c22; have c22b2 : ¬ (t1149 = []) := fun h_ => c22 (by rw [h_]; rfl)
         replace H := Option.bind_eq_some_iff.mp H; obtain ⟨t1157, A340, H⟩ := H; have A34 := Aside0.mk A340; clear A340; replace H := Option.bind_eq_some_iff.mp H; obtain ⟨t1158, A350, H⟩ := H; have A35 := Aside0.mk A350; clear A350; obtain rfl := Option.some.inj H; go_enter Try.func13, Try.ntmps13
         go_wp2_with (first | ((with_reducible refine gate_callee (f := 30) rfl ?_); refine goesL_ (some 13) rfl rfl Try.func30 kr_ rfl #[.slice A0 l0.length c0] rfl (bc_) ?_; (with_reducible refine (laws_big.calls _ _ l0 false _ ?side1 ?side2 A2.out).mono ?_); (case side1 => exact cc_ HR0.out); (case side2 => exact HC0.out); rintro e w' ⟨rfl, ⟨nd, rfl⟩⟩; refine ⟨_, rfl, ?_⟩) | ((with_reducible refine gate_callee (f := 38) rfl ?_); refine goesL_ (some 16) rfl rfl Try.func38 kr_ rfl #[.slice A0 l0.length c0] rfl (bc_) ?_; (with_reducible refine (spec_DrawLotsScale.calls k _ _ l0 t1134 t1135 t1136 t1137 _ ?side1 ?side2 A4.out).mono ?_); (case side1 => exact cc_ HR0.out); (case side2 => exact HC0.out); rintro e w36 ⟨v1138, rfl, ho0, hb⟩; refine ⟨_, rfl, ?_⟩; have n_ := as2_ (Kd.R_lower ho0 (below_size (bb_))) (below_step (bb_) hb); clear HB; obtain ⟨HO1139, HB⟩ := n_; (try clear hb); (try clear ho0); obtain ⟨Ao37, co37, eo37⟩ := Kd.R_slice HO1139.out; subst eo37) | ((with_reducible refine gate_callee (f := 37) rfl ?_); refine goesL_ (some 26) rfl rfl Try.func37 kr_ rfl #[.slice Ao37 t1134.length co37, .int .i64 t1135, .int .i64 t1136, .int .i64 t1137] rfl (bc_) ?_; (with_reducible refine (impl_LotsScale.calls k _ _ t1134 t1135 t1136 t1137 t1140 t1141 _ ?side1 ?side2 A5.out).mono ?_); (case side1 => exact cc_ (Kd.R_reads' HO1139.out).2.2); (case side2 => exact (Kd.R_reads' HO1139.out).2.1); rintro e w38 ⟨v1142, rfl, ho0, hb⟩; refine ⟨_, rfl, ?_⟩; have n_ := as3_ (Kd.R_elder' (pe_ HO1139.out) (Kd.R_base ho0) hb) (Kd.R_lower (Kd.R_new' ho0 (Kd.R_lt (pe_ HO1139.out))) (below_size (bb_))) (below_step (bb_) hb); clear HO1139 HB; obtain ⟨HO1139, HO1143, HB⟩ := n_; (try clear hb); (try clear ho0)) | ((with_reducible refine gate_callee (f := 36) rfl ?_); refine goesL_ (some 34) rfl rfl Try.func36 kr_ rfl #[.slice Ao37 t1134.length co37, .int .i64 t1135, .int .i64 t1136, .int .i64 t1137] rfl (bc_) ?_; (with_reducible refine (spec_LotsScale.calls k _ _ t1134 t1135 t1136 t1137 t1144 t1145 _ ?side1 ?side2 A6.out).mono ?_); (case side1 => exact cc_ (Kd.R_reads' HO1139.out).2.2); (case side2 => exact (Kd.R_reads' HO1139.out).2.1); rintro e w39 ⟨v1146, rfl, ho0, hb⟩; refine ⟨_, rfl, ?_⟩; have n_ := as4_ (Kd.R_elder' (pe_ HO1139.out) (Kd.R_base ho0) hb) (Kd.R_elder' (pe_ HO1143.out) (Kd.R_base ho0) hb) (Kd.R_lower (Kd.R_new' (Kd.R_new' ho0 (Kd.R_lt (pe_ HO1139.out))) (Kd.R_lt (pe_ HO1143.out))) (below_size (bb_))) (below_step (bb_) hb); clear HO1139 HO1143 HB; obtain ⟨HO1139, HO1143, HO1147, HB⟩ := n_; (try clear hb); (try clear ho0); obtain ⟨Ao40, co40, eo40⟩ := Kd.R_slice HO1143.out; subst eo40) | ((with_reducible refine gate_callee (f := 24) rfl ?_); refine goesL_ (some 53) rfl rfl Try.func24 kr_ rfl #[.slice Ao40 t1140.length co40, .int .i64 t1135, .int .i64 t1136] rfl (bc_) ?_; (with_reducible refine (impl_LotsOf.calls _ _ t1140 t1135 t1136 t1149 _ ?side1 ?side2 A15.out).mono ?_); (case side1 => exact cc_ (Kd.R_reads' HO1143.out).2.2); (case side2 => exact (Kd.R_reads' HO1143.out).2.1); rintro e w41 ⟨v1150, rfl, ho0, hb⟩; refine ⟨_, rfl, ?_⟩; have n_ := as5_ (Kd.R_elder' (pe_ HO1139.out) (Kd.R_base ho0) hb) (Kd.R_elder' (pe_ HO1143.out) (Kd.R_base ho0) hb) (Kd.R_elder' (pe_ HO1147.out) (Kd.R_base ho0) hb) (Kd.R_lower (Kd.R_new' (Kd.R_new' (Kd.R_new' ho0 (Kd.R_lt (pe_ HO1139.out))) (Kd.R_lt (pe_ HO1143.out))) (Kd.R_lt (pe_ HO1147.out))) (below_size (bb_))) (below_step (bb_) hb); clear HO1139 HO1143 HO1147 HB; obtain ⟨HO1139, HO1143, HO1147, HO1151, HB⟩ := n_; (try clear hb); (try clear ho0)) | ((with_reducible refine gate_callee (f := 20) rfl ?_); refine goesL_ (some 57) rfl rfl Try.func20 kr_ rfl #[.slice Ao40 t1140.length co40, .int .i64 t1135, .int .i64 t1136] rfl (bc_) ?_; (with_reducible refine (impl_LotsQty.calls k _ _ t1140 t1135 t1136 t1152 _ ?side1 ?side2 A16.out).mono ?_); (case side1 => exact cc_ (Kd.R_reads' HO1143.out).2.2); (case side2 => exact (Kd.R_reads' HO1143.out).2.1); rintro e w42 ⟨rfl, hb⟩; refine ⟨_, rfl, ?_⟩; have n_ := as5_ (Kd.R_below (pe_ HO1139.out) hb) (Kd.R_below (pe_ HO1143.out) hb) (Kd.R_below (pe_ HO1147.out) hb) (Kd.R_below (pe_ HO1151.out) hb) (below_step (bb_) hb); clear HO1139 HO1143 HO1147 HO1151 HB; obtain ⟨HO1139, HO1143, HO1147, HO1151, HB⟩ := n_; (try clear hb)) | (go_at_call 17; (with_reducible refine (impl_LotsOk.calls _ _ t1140 true _ ?side1 ?side2 A18.out).mono ?_); (case side1 => exact cc_ (Kd.R_reads' HO1143.out).2.2); (case side2 => exact (Kd.R_reads' HO1143.out).2.1); rintro e w43 ⟨rfl, hb⟩; have n_ := as5_ (Kd.R_below (pe_ HO1139.out) hb) (Kd.R_below (pe_ HO1143.out) hb) (Kd.R_below (pe_ HO1147.out) hb) (Kd.R_below (pe_ HO1151.out) hb) (below_step (bb_) hb); clear HO1139 HO1143 HO1147 HO1151 HB; obtain ⟨HO1139, HO1143, HO1147, HO1151, HB⟩ := n_; (try clear hb); obtain ⟨Ao44, co44, eo44⟩ := Kd.R_slice HO1151.out; subst eo44) | (go_at_call 23; (with_reducible refine (spec_LotsOf.calls k _ _ t1134 t1135 t1136 t1154 _ ?side1 ?side2 A20.out).mono ?_); (case side1 => exact cc_ (Kd.R_reads' HO1139.out).2.2); (case side2 => exact (Kd.R_reads' HO1139.out).2.1); rintro e w45 ⟨v1155, rfl, ho0, hb⟩; have n_ := as6_ (Kd.R_elder' (pe_ HO1139.out) (Kd.R_base ho0) hb) (Kd.R_elder' (pe_ HO1143.out) (Kd.R_base ho0) hb) (Kd.R_elder' (pe_ HO1147.out) (Kd.R_base ho0) hb) (Kd.R_elder' (pe_ HO1151.out) (Kd.R_base ho0) hb) (Kd.R_lower (Kd.R_new' (Kd.R_new' (Kd.R_new' (Kd.R_new' ho0 (Kd.R_lt (pe_ HO1139.out))) (Kd.R_lt (pe_ HO1143.out))) (Kd.R_lt (pe_ HO1147.out))) (Kd.R_lt (pe_ HO1151.out))) (below_size (bb_))) (below_step (bb_) hb); clear HO1139 HO1143 HO1147 HO1151 HB; obtain ⟨HO1139, HO1143, HO1147, HO1151, HO1156, HB⟩ := n_; (try clear hb); (try clear ho0); obtain ⟨Ao46, co46, eo46⟩ := Kd.R_slice HO1156.out; subst eo46) | (go_at_call 22; (with_reducible refine (impl_LotsCost.calls k _ _ t1140 t1135 t1136 t1157 _ ?side1 ?side2 A34.out).mono ?_); (case side1 => exact cc_ (Kd.R_reads' HO1143.out).2.2); (case side2 => exact (Kd.R_reads' HO1143.out).2.1); rintro e w47 ⟨rfl, hb⟩; have n_ := as6_ (Kd.R_below (pe_ HO1139.out) hb) (Kd.R_below (pe_ HO1143.out) hb) (Kd.R_below (pe_ HO1147.out) hb) (Kd.R_below (pe_ HO1151.out) hb) (Kd.R_below (pe_ HO1156.out) hb) (below_step (bb_) hb); clear HO1139 HO1143 HO1147 HO1151 HO1156 HB; obtain ⟨HO1139, HO1143, HO1147, HO1151, HO1156, HB⟩ := n_; (try clear hb)) | (go_at_call 21; (with_reducible refine (spec_LotsCost.calls k _ _ t1134 t1135 t1136 t1158 _ ?side1 ?side2 A35.out).mono ?_); (case side1 => exact cc_ (Kd.R_reads' HO1139.out).2.2); (case side2 => exact (Kd.R_reads' HO1139.out).2.1); rintro e w48 ⟨rfl, hb⟩; have n_ := as6_ (Kd.R_below (pe_ HO1139.out) hb) (Kd.R_below (pe_ HO1143.out) hb) (Kd.R_below (pe_ HO1147.out) hb) (Kd.R_below (pe_ HO1151.out) hb) (Kd.R_below (pe_ HO1156.out) hb) (below_step (bb_) hb); clear HO1139 HO1143 HO1147 HO1151 HO1156 HB; obtain ⟨HO1139, HO1143, HO1147, HO1151, HO1156, HB⟩ := n_; (try clear hb)))
         go_ret; exact ⟨er_, bb_⟩
       ·
        rw [if_neg c21] at H; exact absurd H (by simp)
      ·
       replace c19 := Bool.eq_false_iff.mpr c19; subst c19; replace H := Eq.trans (if_neg nf_).symm H; exact absurd H (by simp)
     ·
      rw [if_neg c17] at H; exact absurd H (by simp)
    ·
     rw [if_neg c14] at H; have c14b0 : (t1141 == 0) = false := beq_eq_false_iff_ne.mpr c14; have c14b1 : (t1141 != 0) = true := bne_iff_ne.mpr c14; replace H := Option.bind_eq_some_iff.mp H; obtain ⟨t1148, A490, H⟩ := H; have A49 := Aside0.mk A490; clear A490; obtain rfl := Option.some.inj H; go_enter Try.func13, Try.ntmps13
     go_wp2_with (first | ((with_reducible refine gate_callee (f := 30) rfl ?_); refine goesL_ (some 13) rfl rfl Try.func30 kr_ rfl #[.slice A0 l0.length c0] rfl (bc_) ?_; (with_reducible refine (laws_big.calls _ _ l0 false _ ?side1 ?side2 A2.out).mono ?_); (case side1 => exact cc_ HR0.out); (case side2 => exact HC0.out); rintro e w' ⟨rfl, ⟨nd, rfl⟩⟩; refine ⟨_, rfl, ?_⟩) | ((with_reducible refine gate_callee (f := 38) rfl ?_); refine goesL_ (some 16) rfl rfl Try.func38 kr_ rfl #[.slice A0 l0.length c0] rfl (bc_) ?_; (with_reducible refine (spec_DrawLotsScale.calls k _ _ l0 t1134 t1135 t1136 t1137 _ ?side1 ?side2 A4.out).mono ?_); (case side1 => exact cc_ HR0.out); (case side2 => exact HC0.out); rintro e w50 ⟨v1138, rfl, ho0, hb⟩; refine ⟨_, rfl, ?_⟩; have n_ := as2_ (Kd.R_lower ho0 (below_size (bb_))) (below_step (bb_) hb); clear HB; obtain ⟨HO1139, HB⟩ := n_; (try clear hb); (try clear ho0); obtain ⟨Ao51, co51, eo51⟩ := Kd.R_slice HO1139.out; subst eo51) | ((with_reducible refine gate_callee (f := 37) rfl ?_); refine goesL_ (some 26) rfl rfl Try.func37 kr_ rfl #[.slice Ao51 t1134.length co51, .int .i64 t1135, .int .i64 t1136, .int .i64 t1137] rfl (bc_) ?_; (with_reducible refine (impl_LotsScale.calls k _ _ t1134 t1135 t1136 t1137 t1140 t1141 _ ?side1 ?side2 A5.out).mono ?_); (case side1 => exact cc_ (Kd.R_reads' HO1139.out).2.2); (case side2 => exact (Kd.R_reads' HO1139.out).2.1); rintro e w52 ⟨v1142, rfl, ho0, hb⟩; refine ⟨_, rfl, ?_⟩; have n_ := as3_ (Kd.R_elder' (pe_ HO1139.out) (Kd.R_base ho0) hb) (Kd.R_lower (Kd.R_new' ho0 (Kd.R_lt (pe_ HO1139.out))) (below_size (bb_))) (below_step (bb_) hb); clear HO1139 HB; obtain ⟨HO1139, HO1143, HB⟩ := n_; (try clear hb); (try clear ho0)) | ((with_reducible refine gate_callee (f := 36) rfl ?_); refine goesL_ (some 34) rfl rfl Try.func36 kr_ rfl #[.slice Ao51 t1134.length co51, .int .i64 t1135, .int .i64 t1136, .int .i64 t1137] rfl (bc_) ?_; (with_reducible refine (spec_LotsScale.calls k _ _ t1134 t1135 t1136 t1137 t1144 t1145 _ ?side1 ?side2 A6.out).mono ?_); (case side1 => exact cc_ (Kd.R_reads' HO1139.out).2.2); (case side2 => exact (Kd.R_reads' HO1139.out).2.1); rintro e w53 ⟨v1146, rfl, ho0, hb⟩; refine ⟨_, rfl, ?_⟩; have n_ := as4_ (Kd.R_elder' (pe_ HO1139.out) (Kd.R_base ho0) hb) (Kd.R_elder' (pe_ HO1143.out) (Kd.R_base ho0) hb) (Kd.R_lower (Kd.R_new' (Kd.R_new' ho0 (Kd.R_lt (pe_ HO1139.out))) (Kd.R_lt (pe_ HO1143.out))) (below_size (bb_))) (below_step (bb_) hb); clear HO1139 HO1143 HB; obtain ⟨HO1139, HO1143, HO1147, HB⟩ := n_; (try clear hb); (try clear ho0); obtain ⟨Ao54, co54, eo54⟩ := Kd.R_slice HO1143.out; subst eo54) | ((with_reducible refine gate_callee (f := 32) rfl ?_); refine goesL_ (some 49) rfl rfl Try.func32 kr_ rfl #[.slice Ao54 t1140.length co54, .slice Ao51 t1134.length co51] rfl (bc_) ?_; (with_reducible refine (laws_sameLots.calls k _ _ t1140 _ _ t1134 t1148 _ ?side1 ?side2 ?side3 ?side4 A49.out).mono ?_); (case side1 => exact cc_ (Kd.R_reads' HO1143.out).2.2); (case side2 => exact (Kd.R_reads' HO1143.out).2.1); (case side3 => exact cc_ (Kd.R_reads' HO1139.out).2.2); (case side4 => exact (Kd.R_reads' HO1139.out).2.1); rintro e w' ⟨rfl, ⟨nd, rfl⟩⟩; refine ⟨_, rfl, ?_⟩))
     go_ret; exact ⟨er_, bb_⟩
  ·
   rw [if_neg c7] at H; exact absurd H (by simp)
def laws_FnScaled.Pure : Prop := ∀ (l0 : List Int), l0.length ≤ maxLen → l0.length * 1 ≤ 140737488351232 → (∀ x ∈ l0, (Lit.int .u8 x).wf = true) → ∃ k, laws_FnScaled.f k l0 = some true
theorem laws_FnScaled.walk (P : laws_FnScaled.Pure) (a0 : Option Addr) (len0 cap0 : Nat) (z0 : List Int) (w : World) (w0 : (a0 = none ∧ len0 = 0 ∧ cap0 = 0 ∧ z0 = []) ∨ ∃ x, a0 = some x ∧ len0 ≤ cap0 ∧ cap0 ≤ maxLen ∧ z0.length = cap0 ∧ (∀ i, i < z0.length → w.cell? (x.add i) = some (.int .u8 (z0.getD i 0))) ∧ ∀ n ∈ z0, (Lit.int .u8 n).wf = true) (y0 : len0 * 1 ≤ 140737488351232) :
 Calls Try.prog 13 #[.slice a0 len0 cap0] w fun e w' => e = .returned (.bool true) ∧ Below w.heap.size w w' := by
 obtain ⟨l0, rfl, hr0, hm0, hw0, hc0⟩ := ReadsInt.ofRowC w0; obtain ⟨k, h⟩ := P l0 hm0 y0 hw0; refine (laws_FnScaled.calls k _ _ l0 true w (Kd.C_of_reads (d := (0 : Int)) (h1 := fun _ => rfl) hr0) hc0 h).mono ?_
 rintro e w' ⟨rfl, hd⟩; exact ⟨rfl, hd⟩
end Go.Proofs.Ytomanpmffjkkgaa.P
namespace Go.Proofs.Ytomanpmffjkkgaa.EV
open Go Go.RowKit Go.Proofs.YtomanpmffjkkgaaW.PrintWords
theorem w64_in (n : Int) (h0 : -9223372036854775808 ≤ n) (h1 : n ≤ 9223372036854775807) : wrap64 n = n := by unfold wrap64; omega
theorem w_succ {i n : Nat} (h : i < n) (hn : n ≤ 9223372036854775807) : wrap64 ((i : Int) + 1) = ((i + 1 : Nat) : Int) := by unfold wrap64; omega
theorem w_pred {i n : Nat} (h : i < n) (hp : 0 < i) (hn : n ≤ 9223372036854775807) : wrap64 ((i : Int) - 1) = ((i - 1 : Nat) : Int) := by unfold wrap64; omega
theorem Ev_one {α : Type} {g : Nat → Option α} {r : α} (h : ∀ k, g (k + 1) = some r) : Ev g r := ⟨1, fun k hk => by
  obtain ⟨k, rfl⟩ : ∃ m, k = m + 1 := ⟨k - 1, by omega⟩
  exact h k⟩
theorem Ev_all_k {α : Type} {g : Nat → Option α} {r : α} (h : ∀ k, g k = some r) : Ev g r := ⟨0, fun k _ => h k⟩
theorem Ev_bind {α β : Type} {g : Nat → Option α} {f : Nat → α → Option β} {a : α} {r : β} (h : Ev g a) (k : Ev (fun n => f n a) r) : Ev (fun n => (g n).bind (f n)) r := Ev.bind h k
theorem Ev_asks (l : Nat → Int → Option Bool) (n : Nat) (G : Nat → Prop) (fin : Bool) (h0 : Ev (fun k => l k (n : Int)) fin)
    (hs : ∀ i : Nat, i < n → (G i ∧ ∀ k, l (k + 1) (i : Int) = l k ((i + 1 : Nat) : Int)) ∨ (¬ G i ∧ ∀ k, l (k + 1) (i : Int) = some false)) :
    ∀ (d i : Nat), n - i = d → i ≤ n → ∃ r, Ev (fun k => l k (i : Int)) r ∧ (r = true ↔ (∀ j, i ≤ j → j < n → G j) ∧ fin = true) := by
  intro d
  induction d with
  | zero =>
    intro i hd hi
    obtain rfl : i = n := by omega
    exact ⟨fin, h0, ⟨fun h => ⟨fun j h1 h2 => by omega, h⟩, fun h => h.2⟩⟩
  | succ d ih =>
    intro i hd hi
    rcases hs i (by omega) with ⟨hg, he⟩ | ⟨hg, he⟩
    · obtain ⟨r, hr, hiff⟩ := ih (i + 1) (by omega) (by omega)
      refine ⟨r, Ev.step he hr, ?_⟩
      rw [hiff]
      constructor
      · rintro ⟨h1, h2⟩
        refine ⟨fun j h3 h4 => ?_, h2⟩
        rcases Nat.eq_or_lt_of_le h3 with h5 | h5
        · exact h5 ▸ hg
        · exact h1 j h5 h4
      · rintro ⟨h1, h2⟩
        exact ⟨fun j h3 h4 => h1 j (by omega) h4, h2⟩
    · refine ⟨false, Ev_one he, ⟨fun h => Bool.noConfusion h, fun h => absurd (h.1 i (Nat.le_refl _) (by omega)) hg⟩⟩
theorem Ev_goes {σ ρ : Type} (l : Nat → σ → Int → Option ρ) (n : Nat) (F : Nat → σ → ρ) (Inv : Nat → σ → Prop)
    (h0 : ∀ s, Inv n s → Ev (fun k => l k s (n : Int)) (F n s))
    (hs : ∀ (i : Nat) s, i < n → Inv i s → (Ev (fun k => l k s (i : Int)) (F i s)) ∨ ∃ s', Inv (i + 1) s' ∧ F (i + 1) s' = F i s ∧ ∀ k, l (k + 1) s (i : Int) = l k s' ((i + 1 : Nat) : Int)) :
    ∀ (d i : Nat) s, n - i = d → i ≤ n → Inv i s → Ev (fun k => l k s (i : Int)) (F i s) := by
  intro d
  induction d with
  | zero =>
    intro i s hd hi hinv
    obtain rfl : i = n := by omega
    exact h0 s hinv
  | succ d ih =>
    intro i s hd hi hinv
    rcases hs i s (by omega) hinv with h | ⟨s', h1, h2, h3⟩
    · exact h
    · exact h2 ▸ Ev.step h3 (ih (i + 1) s' (by omega) (by omega) h1)
theorem Ev_goes' {σ ρ : Type} (l : Nat → σ → Int → Option ρ) (n : Nat) (F : Nat → σ → ρ) (Inv : Nat → σ → Prop)
    (h0 : ∀ s, Inv n s → Ev (fun k => l k s (n : Int)) (F n s))
    (hs : ∀ (i : Nat) s, i < n → Inv i s → (Ev (fun k => l k s (i : Int)) (F i s)) ∨ ∃ s', Inv (i + 1) s' ∧ F (i + 1) s' = F i s ∧ ∀ r, Ev (fun k => l k s' ((i + 1 : Nat) : Int)) r → Ev (fun k => l k s (i : Int)) r) :
    ∀ (d i : Nat) s, n - i = d → i ≤ n → Inv i s → Ev (fun k => l k s (i : Int)) (F i s) := by
  intro d
  induction d with
  | zero =>
    intro i s hd hi hinv
    obtain rfl : i = n := by omega
    exact h0 s hinv
  | succ d ih =>
    intro i s hd hi hinv
    rcases hs i s (by omega) hinv with h | ⟨s', h1, h2, h3⟩
    · exact h
    · exact h2 ▸ h3 _ (ih (i + 1) s' (by omega) (by omega) h1)
theorem drop_getD {α : Type} (z : α) (l : List α) (i : Nat) (h : i < l.length) : l.drop i = l.getD i z :: l.drop (i + 1) := by
  rw [List.drop_eq_getElem_cons h, List.getD_eq_getElem?_getD, List.getElem?_eq_getElem h]
  rfl
theorem getD_set {α : Type} (l : List α) (i j : Nat) (x z : α) : (l.set i x).getD j z = if i = j ∧ j < l.length then x else l.getD j z := by
  rw [List.getD_eq_getElem?_getD, List.getElem?_set, List.getD_eq_getElem?_getD]
  by_cases h : i = j
  · subst h
    by_cases h2 : i < l.length
    · simp [h2]
    · simp [h2]
  · simp [h]
end Go.Proofs.Ytomanpmffjkkgaa.EV
namespace Go.Proofs.Ytomanpmffjkkgaa.D1
open Go Go.RowKit Go.Proofs.Ytomanpmffjkkgaa.P Go.Proofs.YtomanpmffjkkgaaW.PrintWords Go.Proofs.YtomanpmffjkkgaaW.PrintLast Go.Proofs.Ytomanpmffjkkgaa.EV
theorem and255 (y : Int) : 0 ≤ Go.bits .and .i64 y 255 ∧ Go.bits .and .i64 y 255 ≤ 255 := by
  have h : (BitVec.ofInt IntKind.i64.bits y &&& BitVec.ofInt IntKind.i64.bits 255).toNat ≤ 255 := by
    rw [BitVec.toNat_and]
    exact Nat.le_trans Nat.and_le_right (by decide)
  simp only [Go.bits]
  generalize (BitVec.ofInt IntKind.i64.bits y &&& BitVec.ofInt IntKind.i64.bits 255).toNat = m at *
  rw [IntKind.wrap_i64]
  omega
def V (b : List Int) (i : Int) : Prop := 0 ≤ i ∧ i ≤ b.length ∧ b.length ≤ 140737488351232
theorem byte_ok (b : List Int) (i h : Int) (hv : V b i) : ∃ x i' h', spec_l1Byte.f b i h = some (x, i', h') ∧ 0 ≤ x ∧ x ≤ 255 ∧ V b i' := by
  obtain ⟨h0, h1, h2⟩ := hv
  unfold spec_l1Byte.f
  by_cases hi : i < (b.length : Int)
  · rw [if_pos hi, if_pos h0]
    refine ⟨_, _, _, rfl, (and255 _).1, (and255 _).2, ?_⟩
    rw [w64_in _ (by omega) (by omega)]
    exact ⟨by omega, by omega, h2⟩
  · rw [if_neg hi]
    exact ⟨_, _, _, rfl, (and255 _).1, (and255 _).2, h0, h1, h2⟩
theorem below_ok (b : List Int) (i h n : Int) (hv : V b i) (hn : n ≤ 4294967296) : ∃ x i' h', spec_l1Below.f b i h n = some (x, i', h') ∧ 0 ≤ x ∧ (0 < n → x < n) ∧ (n ≤ 0 → x = 0) ∧ V b i' := by
  unfold spec_l1Below.f
  by_cases h0 : n ≤ 0
  · rw [if_pos h0]
    exact ⟨_, _, _, rfl, by omega, fun h => by omega, fun _ => rfl, hv⟩
  · rw [if_neg h0]
    by_cases h1 : n ≤ 256
    · rw [if_pos h1]
      obtain ⟨x, i1, g1, e1, x0, x1, v1⟩ := byte_ok b i h hv
      rw [e1, Option.bind_some, if_neg (by omega)]
      refine ⟨_, _, _, rfl, ?_, fun _ => ?_, fun h => by omega, v1⟩
      · show 0 ≤ Int.tmod x n
        rw [Int.tmod_eq_emod_of_nonneg x0]
        exact Int.emod_nonneg _ (by omega)
      · show Int.tmod x n < n
        rw [Int.tmod_eq_emod_of_nonneg x0]
        exact Int.emod_lt_of_pos _ (by omega)
    · rw [if_neg h1]
      obtain ⟨x, i1, g1, e1, x0, x1, v1⟩ := byte_ok b i h hv
      rw [e1, Option.bind_some]
      obtain ⟨y, i2, g2, e2, y0, y1, v2⟩ := byte_ok b i1 g1 v1
      simp only [e2, Option.bind_some]
      obtain ⟨z, i3, g3, e3, z0, z1, v3⟩ := byte_ok b i2 g2 v2
      simp only [e3, Option.bind_some]
      obtain ⟨u, i4, g4, e4, u0, u1, v4⟩ := byte_ok b i3 g3 v3
      simp only [e4, Option.bind_some]
      rw [if_neg (by omega), w64_in (x * 16777216) (by omega) (by omega), w64_in (y * 65536) (by omega) (by omega), w64_in (z * 256) (by omega) (by omega),
        w64_in (x * 16777216 + y * 65536) (by omega) (by omega), w64_in (x * 16777216 + y * 65536 + z * 256) (by omega) (by omega), w64_in (x * 16777216 + y * 65536 + z * 256 + u) (by omega) (by omega)]
      refine ⟨_, _, _, rfl, ?_, fun _ => ?_, fun h => by omega, v4⟩
      · rw [Int.tmod_eq_emod_of_nonneg (by omega)]
        exact Int.emod_nonneg _ (by omega)
      · rw [Int.tmod_eq_emod_of_nonneg (by omega)]
        exact Int.emod_lt_of_pos _ (by omega)
theorem new_ok (l : List Int) (hl : l.length ≤ 140737488351232) : ∃ h, Ev (fun k => spec_l1New.f k l) (l, 0, h) := by
  have key : ∀ (d : Nat) (i : Nat) (h : Int), l.length - i = d → i ≤ l.length → ∃ h', Ev (fun k => spec_l1New.l0 k l h (i : Int)) (l, 0, h') := by
    intro d
    induction d with
    | zero =>
      intro i h hd hi
      exact ⟨h, Ev_one fun k => by simp only [spec_l1New.l0]; rw [if_neg (by omega)]⟩
    | succ d ih =>
      intro i h hd hi
      by_cases h4 : (i : Int) < 4000
      · obtain ⟨h', hr⟩ := ih (i + 1) (Go.bits .and .i64 (wrap64 ((wrap64 ((wrap64 (h * 131)) + (wrap64 (rd l (i : Int))))) + 7)) 1073741823) (by omega) (by omega)
        refine ⟨h', Ev.step (fun k => ?_) hr⟩
        simp only [spec_l1New.l0]
        rw [if_pos (by omega), if_pos h4, if_pos (by omega), w_succ (i := i) (n := l.length) (by omega) (by omega)]
      · exact ⟨h, Ev_one fun k => by simp only [spec_l1New.l0]; rw [if_pos (by omega), if_neg h4]⟩
  obtain ⟨h', hr⟩ := key l.length 0 (wrap64 (11029 + (l.length : Int))) (by omega) (by omega)
  exact ⟨h', Ev.congr (fun k => rfl) hr⟩
theorem once_ok (b : List Int) (i h n : Int) (hv : V b i) (hn : n ≤ 4294967296) : ∃ x i' h', spec_l1Once.f b i h n = some (x, i', h') ∧ V b i' := by
  unfold spec_l1Once.f
  obtain ⟨x, i1, g1, e1, _, _, _, v1⟩ := below_ok b i h n hv hn
  rw [e1]
  exact ⟨_, _, _, rfl, v1⟩
theorem pick_ok (b : List Int) (i h : Int) (l : List Int) (hv : V b i) (h0 : 0 < l.length) (hn : l.length ≤ 4294967296) : ∃ x i' h', spec_l1PickInt.f b i h l = some (x, i', h') ∧ x ∈ l ∧ V b i' := by
  unfold spec_l1PickInt.f
  obtain ⟨x, i1, g1, e1, x0, x1, _, v1⟩ := below_ok b i h l.length hv (by omega)
  have x2 := x1 (by omega)
  rw [e1, Option.bind_some, if_pos x0, if_pos x2]
  refine ⟨_, _, _, rfl, ?_, v1⟩
  show rd l x ∈ l
  unfold rd
  rw [List.getD_eq_getElem?_getD, List.getElem?_eq_getElem (by omega)]
  exact List.getElem_mem _
end Go.Proofs.Ytomanpmffjkkgaa.D1
namespace Go.Proofs.Ytomanpmffjkkgaa.I1
open Go Go.RowKit Go.Proofs.Ytomanpmffjkkgaa.P Go.Proofs.YtomanpmffjkkgaaW.PrintWords Go.Proofs.YtomanpmffjkkgaaW.PrintLast
theorem in_i (a lo hi : Int) : impl_in.f a lo hi = some (decide (lo ≤ a ∧ a ≤ hi)) := by
  unfold impl_in.f
  by_cases h : a ≥ lo
  · rw [if_pos h]
    congr 1
    rw [Bool.eq_iff_iff, decide_eq_true_iff, decide_eq_true_iff]
    omega
  · rw [if_neg h]
    congr 1
    symm
    rw [decide_eq_false_iff_not]
    omega
theorem in_s (a lo hi : Int) : spec_l1In.f a lo hi = some (decide (lo ≤ a ∧ a ≤ hi)) := by
  unfold spec_l1In.f
  by_cases h : a ≥ lo
  · rw [if_pos h]
    congr 1
    rw [Bool.eq_iff_iff, decide_eq_true_iff, decide_eq_true_iff]
    omega
  · rw [if_neg h]
    congr 1
    symm
    rw [decide_eq_false_iff_not]
    omega
end Go.Proofs.Ytomanpmffjkkgaa.I1
namespace Go.Proofs.Ytomanpmffjkkgaa.N1
open Go Go.RowKit Go.Proofs.Ytomanpmffjkkgaa.P Go.Proofs.YtomanpmffjkkgaaW.PrintWords Go.Proofs.YtomanpmffjkkgaaW.PrintLast Go.Proofs.Ytomanpmffjkkgaa.EV Go.Proofs.Ytomanpmffjkkgaa.I1
def No (a : Int) : Prop := 1 ≤ a ∧ a ≤ 1000
def Amt (a : Int) : Prop := -1000000000000000 ≤ a ∧ a ≤ 1000000000000000
instance (a : Int) : Decidable (No a) := by unfold No; exact inferInstance
instance (a : Int) : Decidable (Amt a) := by unfold Amt; exact inferInstance
theorem no_s (a : Int) : spec_l3No.f a = some (decide (No a)) := by unfold spec_l3No.f; rw [in_s]; rfl
theorem amt_s (a : Int) : spec_AmountOk.f a = some (decide (Amt a)) := by unfold spec_AmountOk.f; rw [in_s]; rfl
end Go.Proofs.Ytomanpmffjkkgaa.N1
namespace Go.Proofs.Ytomanpmffjkkgaa.E1
open Go Go.RowKit Go.Proofs.Ytomanpmffjkkgaa.P Go.Proofs.YtomanpmffjkkgaaW.PrintWords Go.Proofs.YtomanpmffjkkgaaW.PrintLast Go.Proofs.Ytomanpmffjkkgaa.EV Go.Proofs.Ytomanpmffjkkgaa.I1 Go.Proofs.Ytomanpmffjkkgaa.N1
abbrev SL := S37
theorem rdL (l : List SL) (i : Nat) : rd_T37 l (i : Int) = l.getD i z37 := by unfold rd_T37; rw [Int.toNat_natCast]
def Form (x : SL) : Prop := No x.f0 ∧ No x.f1 ∧ (1 ≤ x.f2 ∧ x.f2 ≤ 1000000000) ∧ (1 ≤ x.f3 ∧ x.f3 ≤ 1000000000000000) ∧ 0 ≤ x.f4 ∧ x.f4 ≤ 1000000000000000
instance (x : SL) : Decidable (Form x) := by unfold Form No; exact inferInstance
def Lt (x y : SL) : Prop := x.f0 < y.f0 ∨ (x.f0 = y.f0 ∧ (x.f1 < y.f1 ∨ (x.f1 = y.f1 ∧ x.f2 < y.f2)))
instance (x y : SL) : Decidable (Lt x y) := by unfold Lt; exact inferInstance
theorem Lt.trans {x y z : SL} (h : Lt x y) (g : Lt y z) : Lt x z := by
  unfold Lt at *
  omega
def qty (a b : Int) : List SL → Int
  | [] => 0
  | x :: xs => (if x.f0 = a ∧ x.f1 = b then x.f3 else 0) + qty a b xs
def cst (a b : Int) : List SL → Int
  | [] => 0
  | x :: xs => (if x.f0 = a ∧ x.f1 = b then x.f4 else 0) + cst a b xs
def Chn : Option SL → List SL → Prop
  | _, [] => True
  | none, x :: xs => Chn (some x) xs
  | some y, x :: xs => Lt y x ∧ Chn (some x) xs
def Right (l : List SL) : Prop := l.length ≤ 120 ∧ (∀ x ∈ l, Form x) ∧ Chn none l ∧ ∀ a b, Amt (qty a b l) ∧ Amt (cst a b l)
theorem Chn.tail {y x : SL} {l : List SL} (h : Lt y x) (g : Chn (some x) l) : Chn (some y) l := by
  cases l with
  | nil => trivial
  | cons z zs => exact ⟨h.trans g.1, g.2⟩
theorem Chn.all {y : SL} : ∀ {l : List SL}, Chn (some y) l → ∀ x ∈ l, Lt y x
  | [], _, x, hx => by cases hx
  | z :: zs, h, x, hx => by
    rcases List.mem_cons.1 hx with rfl | hx
    · exact h.1
    · exact Chn.all (Chn.tail h.1 h.2) x hx
theorem qty_none {a b : Int} : ∀ {l : List SL}, (∀ x ∈ l, ¬(x.f0 = a ∧ x.f1 = b)) → qty a b l = 0 ∧ cst a b l = 0
  | [], _ => ⟨rfl, rfl⟩
  | x :: xs, h => by
    have ih := qty_none (l := xs) fun y hy => h y (List.mem_cons_of_mem _ hy)
    have hx := h x (List.mem_cons_self ..)
    simp only [qty, cst]
    rw [if_neg hx, if_neg hx, ih.1, ih.2]
    exact ⟨rfl, rfl⟩
theorem qty_pos {a b : Int} : ∀ {l : List SL}, (∀ x ∈ l, Form x) → 0 ≤ qty a b l ∧ 0 ≤ cst a b l ∧ qty a b l ≤ l.length * 1000000000000000 ∧ cst a b l ≤ l.length * 1000000000000000
  | [], _ => ⟨Int.le_refl _, Int.le_refl _, by simp [qty], by simp [cst]⟩
  | x :: xs, h => by
    have ih := qty_pos (a := a) (b := b) (l := xs) fun y hy => h y (List.mem_cons_of_mem _ hy)
    have hx := h x (List.mem_cons_self ..)
    unfold Form at hx
    simp only [qty, cst, List.length_cons]
    split <;> omega
theorem cmp_neg (x y : SL) : 0 ≤ impl_LotsOk.cmp x y ↔ ¬Lt x y := by
  unfold impl_LotsOk.cmp Lt
  by_cases h0 : x.f0 < y.f0
  · rw [if_pos h0]; omega
  · rw [if_neg h0]
    by_cases h1 : y.f0 < x.f0
    · rw [if_pos h1]; omega
    · rw [if_neg h1]
      by_cases h2 : x.f1 < y.f1
      · rw [if_pos h2]; omega
      · rw [if_neg h2]
        by_cases h3 : y.f1 < x.f1
        · rw [if_pos h3]; omega
        · rw [if_neg h3]
          by_cases h4 : x.f2 < y.f2
          · rw [if_pos h4]; omega
          · rw [if_neg h4]
            by_cases h5 : y.f2 < x.f2
            · rw [if_pos h5]; omega
            · rw [if_neg h5]; omega
theorem form_iff (x : SL) : impl_LotsOk.form x = true ↔ Form x := by
  unfold impl_LotsOk.form Form No
  rw [decide_eq_true_iff]
def prev (l : List SL) (i : Nat) : Option SL := if 0 < i then some (l.getD (i - 1) z37) else none
theorem chk_go (l : List SL) : ∀ (n i : Nat), l.length - i = n → i ≤ l.length → (impl_LotsOk.chk l n i = true ↔ (∀ x ∈ l.drop i, Form x) ∧ Chn (prev l i) (l.drop i))
  | 0, i, hn, hi => by
    obtain rfl : i = l.length := by omega
    rw [List.drop_length]
    unfold impl_LotsOk.chk
    exact ⟨fun _ => ⟨fun x hx => (by cases hx), trivial⟩, fun _ => rfl⟩
  | n + 1, i, hn, hi => by
    have h1 : i < l.length := by omega
    have ih := chk_go l n (i + 1) (by omega) (by omega)
    have ep : prev l (i + 1) = some (l.getD i z37) := by unfold prev; rw [if_pos (by omega), Nat.add_sub_cancel]
    rw [ep] at ih
    rw [drop_getD z37 l i h1]
    unfold impl_LotsOk.chk
    by_cases h0 : 0 < i
    · have e0 : prev l i = some (l.getD (i - 1) z37) := by unfold prev; rw [if_pos h0]
      rw [e0]
      constructor
      · intro h
        split at h
        · rename_i hg
          have h2 := ih.1 h
          refine ⟨fun x hx => ?_, Classical.byContradiction fun hh => hg.2 ⟨h0, (cmp_neg _ _).2 fun hl => hh ⟨hl, h2.2⟩⟩⟩
          rcases List.mem_cons.1 hx with rfl | hx
          · exact (form_iff _).1 hg.1
          · exact h2.1 x hx
        · cases h
      · rintro ⟨hf, hl, hc⟩
        rw [if_pos ⟨(form_iff _).2 (hf _ (List.mem_cons_self ..)), fun hh => (cmp_neg _ _).1 hh.2 hl⟩]
        exact ih.2 ⟨fun x hx => hf x (List.mem_cons_of_mem _ hx), hc⟩
    · have e0 : prev l i = none := by unfold prev; rw [if_neg h0]
      rw [e0]
      constructor
      · intro h
        split at h
        · rename_i hg
          have h2 := ih.1 h
          refine ⟨fun x hx => ?_, h2.2⟩
          rcases List.mem_cons.1 hx with rfl | hx
          · exact (form_iff _).1 hg.1
          · exact h2.1 x hx
        · cases h
      · rintro ⟨hf, hc⟩
        rw [if_pos ⟨(form_iff _).2 (hf _ (List.mem_cons_self ..)), fun hh => h0 hh.1⟩]
        exact ih.2 ⟨fun x hx => hf x (List.mem_cons_of_mem _ hx), hc⟩
theorem sum_of (a b : Int) : ∀ (l : List SL) (q c : Int), (∀ x ∈ l, Form x) → 0 ≤ q → 0 ≤ c → q + l.length * 1000000000000000 ≤ 9000000000000000000 → c + l.length * 1000000000000000 ≤ 9000000000000000000 →
    impl_LotsOk.sum3 (impl_LotsOk.of l a b) q = q + qty a b l ∧ impl_LotsOk.sum4 (impl_LotsOk.of l a b) c = c + cst a b l
  | [], q, c, _, _, _, _, _ => by simp [impl_LotsOk.of, impl_LotsOk.sum3, impl_LotsOk.sum4, qty, cst]
  | x :: xs, q, c, hf, h0, h1, h2, h3 => by
    have hx := hf x (List.mem_cons_self ..)
    have hxs : ∀ y ∈ xs, Form y := fun y hy => hf y (List.mem_cons_of_mem _ hy)
    unfold Form at hx
    simp only [List.length_cons] at h2 h3
    by_cases hk : x.f0 = a ∧ x.f1 = b
    · have e : impl_LotsOk.of (x :: xs) a b = x :: impl_LotsOk.of xs a b := by
        unfold impl_LotsOk.of
        rw [List.filter_cons_of_pos (by simpa using hk)]
      have ih := sum_of a b xs (q + x.f3) (c + x.f4) hxs (by omega) (by omega) (by omega) (by omega)
      rw [e]
      simp only [impl_LotsOk.sum3, impl_LotsOk.sum4, List.foldl_cons, qty, cst] at ih ⊢
      rw [if_pos hk, if_pos hk, w64_in (q + x.f3) (by omega) (by omega), w64_in (c + x.f4) (by omega) (by omega), ih.1, ih.2]
      omega
    · have e : impl_LotsOk.of (x :: xs) a b = impl_LotsOk.of xs a b := by
        unfold impl_LotsOk.of
        rw [List.filter_cons_of_neg (by simpa using hk)]
      have ih := sum_of a b xs q c hxs (by omega) (by omega) (by omega) (by omega)
      rw [e]
      simp only [qty, cst]
      rw [if_neg hk, if_neg hk, ih.1, ih.2]
      omega
theorem over_iff (l : List SL) (hl : l.length ≤ 120) (hf : ∀ x ∈ l, Form x) (x : SL) : impl_LotsOk.over l x = false ↔ Amt (qty x.f0 x.f1 l) ∧ Amt (cst x.f0 x.f1 l) := by
  have h := sum_of x.f0 x.f1 l 0 0 hf (Int.le_refl _) (Int.le_refl _) (by omega) (by omega)
  unfold impl_LotsOk.over
  rw [h.1, h.2, Int.zero_add, Int.zero_add]
  unfold impl_LotsOk.amt Amt
  by_cases h1 : -1000000000000000 ≤ qty x.f0 x.f1 l ∧ qty x.f0 x.f1 l ≤ 1000000000000000
  · by_cases h2 : -1000000000000000 ≤ cst x.f0 x.f1 l ∧ cst x.f0 x.f1 l ≤ 1000000000000000
    · simp [h1, h2]
    · rw [if_pos (decide_eq_true h1), decide_eq_false h2]
      exact ⟨fun h => Bool.noConfusion h, fun h => absurd h.2 h2⟩
  · rw [if_neg (by rw [decide_eq_false h1]; decide)]
    exact ⟨fun h => Bool.noConfusion h, fun h => absurd h.1 h1⟩
theorem ok_iff (l : List SL) : impl_LotsOk.ok l = true ↔ Right l := by
  unfold impl_LotsOk.ok
  have hc := chk_go l l.length 0 (by omega) (by omega)
  rw [List.drop_zero] at hc
  by_cases h1 : impl_LotsOk.chk l l.length 0 = true
  · rw [if_pos h1]
    have hg := hc.1 h1
    by_cases h2 : (l.length : Int) > 120
    · rw [if_pos h2]
      exact ⟨fun h => Bool.noConfusion h, fun h => absurd h.1 (by omega)⟩
    · rw [if_neg h2]
      have h3 : l.length ≤ 120 := by omega
      constructor
      · intro h
        have h4 : l.any (impl_LotsOk.over l) = false := by simpa using h
        refine ⟨h3, hg.1, hg.2, fun a b => ?_⟩
        by_cases hx : ∃ x ∈ l, x.f0 = a ∧ x.f1 = b
        · obtain ⟨x, hx, rfl, rfl⟩ := hx
          have h5 := List.any_eq_false.1 h4 x hx
          exact (over_iff l h3 hg.1 x).1 (by simpa using h5)
        · have h6 := qty_none (a := a) (b := b) (l := l) fun x hm hk => hx ⟨x, hm, hk⟩
          rw [h6.1, h6.2]
          unfold Amt
          omega
      · intro h
        have h4 : l.any (impl_LotsOk.over l) = false := by
          rw [List.any_eq_false]
          intro x _
          rw [(over_iff l h3 hg.1 x).2 (h.2.2.2 x.f0 x.f1)]
          decide
        rw [h4]
        rfl
  · rw [if_neg h1]
    exact ⟨fun h => Bool.noConfusion h, fun h => absurd (hc.2 ⟨h.2.1, h.2.2.1⟩) h1⟩
theorem some_s (a lo : Int) : spec_l1Some.f a lo = some (decide (lo ≤ a ∧ a ≤ 1000000000000000)) := by
  unfold spec_l1Some.f
  first | (rw [in_s]; rfl) | (rw [in_s])
theorem right_s (x : SL) : spec_l5Right.f x.f0 x.f1 x.f2 x.f3 x.f4 = some (decide (Form x)) := by
  unfold spec_l5Right.f
  simp only [no_s, in_s, some_s, Option.bind_some, decide_eq_true_iff]
  by_cases h0 : No x.f0
  · by_cases h1 : No x.f1
    · by_cases h2 : 1 ≤ x.f2 ∧ x.f2 ≤ 1000000000
      · by_cases h3 : 1 ≤ x.f3 ∧ x.f3 ≤ 1000000000000000
        · by_cases h4 : 0 ≤ x.f4 ∧ x.f4 ≤ 1000000000000000
          · rw [if_pos h0, if_pos h1, if_pos h2, if_pos h3, decide_eq_true h4, decide_eq_true (show Form x from ⟨h0, h1, h2, h3, h4⟩)]
          · rw [if_pos h0, if_pos h1, if_pos h2, if_pos h3, decide_eq_false h4, decide_eq_false (fun g : Form x => h4 g.2.2.2.2)]
        · rw [if_pos h0, if_pos h1, if_pos h2, if_neg h3, decide_eq_false (fun g : Form x => h3 g.2.2.2.1)]
      · rw [if_pos h0, if_pos h1, if_neg h2, decide_eq_false (fun g : Form x => h2 g.2.2.1)]
    · rw [if_pos h0, if_neg h1, decide_eq_false (fun g : Form x => h1 g.2.1)]
  · rw [if_neg h0, decide_eq_false (fun g : Form x => h0 g.1)]
theorem before_s (x y : SL) : spec_l5Before.f x.f0 x.f1 x.f2 x.f3 x.f4 y.f0 y.f1 y.f2 y.f3 y.f4 = some (decide (Lt x y)) := by
  unfold spec_l5Before.f spec_l4Before.f Lt
  by_cases h0 : x.f0 < y.f0
  · simp [h0]
  · by_cases h1 : x.f0 = y.f0
    · by_cases h2 : x.f1 < y.f1
      · simp [h1, h2]
      · by_cases h3 : x.f1 = y.f1 <;> simp [h1, h2, h3]
    · simp [h0, h1]
def base (p : Option SL) (q a b : Int) : Int := match p with
  | none => 0
  | some y => if y.f0 = a ∧ y.f1 = b then q else 0
def Aft (p : Option SL) (x : SL) : Prop := match p with
  | none => True
  | some y => Lt y x
instance (p : Option SL) (x : SL) : Decidable (Aft p x) := by unfold Aft; split <;> exact inferInstance
def go : Option SL → Int → Int → List SL → Bool
  | _, _, _, [] => true
  | p, q, c, x :: xs => if Form x ∧ Aft p x then (if Amt (base p q x.f0 x.f1 + x.f3) ∧ Amt (base p c x.f0 x.f1 + x.f4) then go (some x) (base p q x.f0 x.f1 + x.f3) (base p c x.f0 x.f1 + x.f4) xs else false) else false
theorem chn_cons (p : Option SL) (x : SL) (xs : List SL) : Chn p (x :: xs) ↔ Aft p x ∧ Chn (some x) xs := by
  cases p with
  | none => exact ⟨fun h => ⟨trivial, h⟩, fun h => h.2⟩
  | some y => exact Iff.rfl
theorem base_pos (p : Option SL) (q a b : Int) (h0 : 0 ≤ q) (h1 : q ≤ 1000000000000000) : 0 ≤ base p q a b ∧ base p q a b ≤ 1000000000000000 := by
  cases p with
  | none => simp only [base]; omega
  | some y => simp only [base]; split <;> omega
theorem base_own (x : SL) (q : Int) : base (some x) q x.f0 x.f1 = q := by simp only [base]; rw [if_pos ⟨trivial, trivial⟩]
theorem base_other {x : SL} {q a b : Int} (h : ¬(x.f0 = a ∧ x.f1 = b)) : base (some x) q a b = 0 := by simp only [base]; rw [if_neg h]
theorem gone {y x : SL} {xs : List SL} {a b : Int} (hl : Lt y x) (hc : Chn (some x) xs) (hy : y.f0 = a ∧ y.f1 = b) (hx : ¬(x.f0 = a ∧ x.f1 = b)) : qty a b xs = 0 ∧ cst a b xs = 0 :=
  qty_none fun z hz hk => by
    have h1 := Chn.all hc z hz
    unfold Lt at h1 hl
    omega
theorem go_iff : ∀ (l : List SL) (p : Option SL) (q c : Int), 0 ≤ q → q ≤ 1000000000000000 → 0 ≤ c → c ≤ 1000000000000000 →
    (go p q c l = true ↔ (∀ x ∈ l, Form x) ∧ Chn p l ∧ ∀ a b, Amt (base p q a b + qty a b l) ∧ Amt (base p c a b + cst a b l))
  | [], p, q, c, q0, q1, c0, c1 => by
    refine ⟨fun _ => ⟨fun x hx => (by cases hx), by cases p <;> trivial, fun a b => ?_⟩, fun _ => by cases p <;> rfl⟩
    have h1 := base_pos p q a b q0 q1
    have h2 := base_pos p c a b c0 c1
    simp only [qty, cst]
    unfold Amt
    omega
  | x :: xs, p, q, c, q0, q1, c0, c1 => by
    have hb1 := base_pos p q x.f0 x.f1 q0 q1
    have hb2 := base_pos p c x.f0 x.f1 c0 c1
    rw [go, chn_cons]
    by_cases h1 : Form x ∧ Aft p x
    · rw [if_pos h1]
      have hfx := h1.1
      unfold Form at hfx
      by_cases h2 : Amt (base p q x.f0 x.f1 + x.f3) ∧ Amt (base p c x.f0 x.f1 + x.f4)
      · rw [if_pos h2]
        have ih := go_iff xs (some x) (base p q x.f0 x.f1 + x.f3) (base p c x.f0 x.f1 + x.f4) (by omega) h2.1.2 (by omega) h2.2.2
        have key : Chn (some x) xs → ∀ a b, ((Amt (base (some x) (base p q x.f0 x.f1 + x.f3) a b + qty a b xs) ∧ Amt (base (some x) (base p c x.f0 x.f1 + x.f4) a b + cst a b xs)) ↔ (Amt (base p q a b + qty a b (x :: xs)) ∧ Amt (base p c a b + cst a b (x :: xs)))) := by
          intro hc a b
          by_cases hk : x.f0 = a ∧ x.f1 = b
          · obtain ⟨rfl, rfl⟩ := hk
            rw [base_own, base_own]
            simp only [qty, cst]
            rw [if_pos ⟨trivial, trivial⟩, if_pos ⟨trivial, trivial⟩, Int.add_assoc, Int.add_assoc]
          · rw [base_other hk, base_other hk]
            simp only [qty, cst]
            rw [if_neg hk, if_neg hk]
            simp only [Int.zero_add]
            cases p with
            | none => simp only [base, Int.zero_add]
            | some y =>
              by_cases hy : y.f0 = a ∧ y.f1 = b
              · have hg := gone h1.2 hc hy hk
                simp only [base]
                rw [if_pos hy, if_pos hy, hg.1, hg.2]
                unfold Amt
                omega
              · rw [base_other hy, base_other hy]
                simp only [Int.zero_add]
        constructor
        · intro h
          obtain ⟨f1, f2, f3⟩ := ih.1 h
          refine ⟨fun z hz => ?_, ⟨h1.2, f2⟩, fun a b => (key f2 a b).1 (f3 a b)⟩
          rcases List.mem_cons.1 hz with rfl | hz
          · exact h1.1
          · exact f1 z hz
        · rintro ⟨f1, ⟨_, f2⟩, f3⟩
          exact ih.2 ⟨fun z hz => f1 z (List.mem_cons_of_mem _ hz), f2, fun a b => (key f2 a b).2 (f3 a b)⟩
      · rw [if_neg h2]
        refine ⟨fun h => Bool.noConfusion h, fun h => absurd ?_ h2⟩
        obtain ⟨f1, ⟨_, f2⟩, f3⟩ := h
        have h3 := f3 x.f0 x.f1
        have h4 := qty_pos (a := x.f0) (b := x.f1) (l := xs) fun z hz => f1 z (List.mem_cons_of_mem _ hz)
        simp only [qty, cst] at h3
        rw [if_pos ⟨trivial, trivial⟩, if_pos ⟨trivial, trivial⟩] at h3
        unfold Amt at h3 ⊢
        omega
    · rw [if_neg h1]
      exact ⟨fun h => Bool.noConfusion h, fun h => absurd ⟨h.1 x (List.mem_cons_self ..), h.2.1.1⟩ h1⟩
theorem lotsOk_s (l : List SL) : Ev (fun k => spec_LotsOk.f k l) (impl_LotsOk.ok l) := by
  unfold spec_LotsOk.f
  have hok : impl_LotsOk.ok l = (if (l.length : Int) > 120 then false else go none 0 0 l) := by
    rw [Bool.eq_iff_iff, ok_iff]
    by_cases h : (l.length : Int) > 120
    · rw [if_pos h]
      exact ⟨fun g => absurd g.1 (by omega), fun g => Bool.noConfusion g⟩
    · rw [if_neg h, go_iff l none 0 0 (by omega) (by omega) (by omega) (by omega)]
      unfold Right
      simp only [base, Int.zero_add]
      exact ⟨fun g => g.2, fun g => ⟨by omega, g⟩⟩
  rw [hok]
  by_cases hn : (l.length : Int) > 120
  · rw [if_pos hn]
    exact Ev_all_k fun k => by rw [if_pos hn]
  · rw [if_neg hn]
    have h := Ev_goes' (fun k (s : Int × Int) i => spec_LotsOk.l0 k l s.1 s.2 i) l.length (fun i s => go (prev l i) s.1 s.2 (l.drop i)) (fun i s => 0 ≤ s.1 ∧ s.1 ≤ 1000000000000000 ∧ 0 ≤ s.2 ∧ s.2 ≤ 1000000000000000)
      (fun s hs => Ev_one fun k => by
        simp only [spec_LotsOk.l0]
        rw [if_neg (by omega), List.drop_length]
        cases prev l l.length <;> rfl)
      (fun i s hi hs => by
        obtain ⟨q, c⟩ := s
        obtain ⟨q0, q1, c0, c1⟩ := hs
        simp only at q0 q1 c0 c1
        show (Ev (fun k => spec_LotsOk.l0 k l q c (i : Int)) (go (prev l i) q c (l.drop i))) ∨ _
        have ep : prev l (i + 1) = some (l.getD i z37) := by unfold prev; rw [if_pos (by omega), Nat.add_sub_cancel]
        rw [drop_getD z37 l i hi]
        show (Ev (fun k => spec_LotsOk.l0 k l q c (i : Int)) (go (prev l i) q c (l.getD i z37 :: l.drop (i + 1)))) ∨ ∃ s' : Int × Int, _ ∧ go (prev l (i + 1)) s'.1 s'.2 (l.drop (i + 1)) = go (prev l i) q c (l.getD i z37 :: l.drop (i + 1)) ∧ _
        rw [ep]
        generalize hx : l.getD i z37 = x
        rw [go]
        have hb1 := base_pos (prev l i) q x.f0 x.f1 q0 q1
        have hb2 := base_pos (prev l i) c x.f0 x.f1 c0 c1
        -- the round's last part
        have e3 : Form x → ∀ (a b : Int), 0 ≤ a → a ≤ 1000000000000000 → 0 ≤ b → b ≤ 1000000000000000 → ∀ k, spec_LotsOk.j3 (k + 1) l a b (i : Int) x.f0 x.f1 x.f2 x.f3 x.f4 = if Amt (a + x.f3) ∧ Amt (b + x.f4) then spec_LotsOk.l0 k l (a + x.f3) (b + x.f4) ((i + 1 : Nat) : Int) else some false := by
          intro hf a b a0 a1 b0 b1 k
          unfold Form at hf
          simp only [spec_LotsOk.j3]
          rw [w64_in (a + x.f3) (by omega) (by omega), w64_in (b + x.f4) (by omega) (by omega), w_succ hi (by omega), amt_s, amt_s, Option.bind_some, Option.bind_some]
          by_cases h1 : Amt (a + x.f3)
          · by_cases h2 : Amt (b + x.f4)
            · rw [if_pos (decide_eq_true h1), if_pos (decide_eq_true h2), if_pos ⟨h1, h2⟩]
            · rw [if_pos (decide_eq_true h1), if_neg (by rw [decide_eq_false h2]; decide), if_neg fun g => h2 g.2]
          · rw [if_neg (by rw [decide_eq_false h1]; decide), if_neg fun g => h1 g.1]
        have e2 : ∀ k (t : Bool), spec_LotsOk.j2 (k + 1) l q c (i : Int) t x.f0 x.f1 x.f2 x.f3 x.f4 = if t = true then spec_LotsOk.j3 k l 0 0 (i : Int) x.f0 x.f1 x.f2 x.f3 x.f4 else spec_LotsOk.j3 k l q c (i : Int) x.f0 x.f1 x.f2 x.f3 x.f4 := fun k t => by simp only [spec_LotsOk.j2]
        -- what the round comes to, once the pair's own amounts are known
        have fin : ∀ a b, Form x → a = base (prev l i) q x.f0 x.f1 → b = base (prev l i) c x.f0 x.f1 → Aft (prev l i) x → (∀ r, Ev (fun k => spec_LotsOk.j3 k l a b (i : Int) x.f0 x.f1 x.f2 x.f3 x.f4) r → Ev (fun k => spec_LotsOk.l0 k l q c (i : Int)) r) →
            (Ev (fun k => spec_LotsOk.l0 k l q c (i : Int)) (if Form x ∧ Aft (prev l i) x then (if Amt (base (prev l i) q x.f0 x.f1 + x.f3) ∧ Amt (base (prev l i) c x.f0 x.f1 + x.f4) then go (some x) (base (prev l i) q x.f0 x.f1 + x.f3) (base (prev l i) c x.f0 x.f1 + x.f4) (l.drop (i + 1)) else false) else false)) ∨
            ∃ s' : Int × Int, (0 ≤ s'.1 ∧ s'.1 ≤ 1000000000000000 ∧ 0 ≤ s'.2 ∧ s'.2 ≤ 1000000000000000) ∧ go (some x) s'.1 s'.2 (l.drop (i + 1)) = (if Form x ∧ Aft (prev l i) x then (if Amt (base (prev l i) q x.f0 x.f1 + x.f3) ∧ Amt (base (prev l i) c x.f0 x.f1 + x.f4) then go (some x) (base (prev l i) q x.f0 x.f1 + x.f3) (base (prev l i) c x.f0 x.f1 + x.f4) (l.drop (i + 1)) else false) else false) ∧
              ∀ r, Ev (fun k => spec_LotsOk.l0 k l s'.1 s'.2 ((i + 1 : Nat) : Int)) r → Ev (fun k => spec_LotsOk.l0 k l q c (i : Int)) r := by
          rintro a b hf rfl rfl ha step
          rw [if_pos ⟨hf, ha⟩]
          have hf' := hf
          unfold Form at hf'
          by_cases hm : Amt (base (prev l i) q x.f0 x.f1 + x.f3) ∧ Amt (base (prev l i) c x.f0 x.f1 + x.f4)
          · rw [if_pos hm]
            refine .inr ⟨(base (prev l i) q x.f0 x.f1 + x.f3, base (prev l i) c x.f0 x.f1 + x.f4), ⟨by show 0 ≤ _ + x.f3; omega, hm.1.2, by show 0 ≤ _ + x.f4; omega, hm.2.2⟩, rfl, fun r hr => ?_⟩
            refine step r (Ev.step (fun k => ?_) hr)
            show spec_LotsOk.j3 (k + 1) l _ _ (i : Int) x.f0 x.f1 x.f2 x.f3 x.f4 = _
            rw [e3 hf _ _ hb1.1 hb1.2 hb2.1 hb2.2 k, if_pos hm]
          · rw [if_neg hm]
            refine .inl (step false (Ev_one fun k => ?_))
            show spec_LotsOk.j3 (k + 1) l _ _ (i : Int) x.f0 x.f1 x.f2 x.f3 x.f4 = _
            rw [e3 hf _ _ hb1.1 hb1.2 hb2.1 hb2.2 k, if_neg hm]
        by_cases hf : Form x
        · by_cases h0 : 0 < i
          · have e0 : prev l i = some (l.getD (i - 1) z37) := by unfold prev; rw [if_pos h0]
            generalize hy : l.getD (i - 1) z37 = y at e0
            have eA : ∀ k, spec_LotsOk.l0 (k + 1) l q c (i : Int) = spec_LotsOk.j1 k l q c (i : Int) (!decide (Lt y x)) x.f0 x.f1 x.f2 x.f3 x.f4 := by
              intro k
              simp only [spec_LotsOk.l0]
              rw [if_pos (by omega), if_pos (by omega), w_pred hi h0 (by omega)]
              simp only [rdL, hx, hy, right_s, before_s, Option.bind_some, decide_eq_true_iff]
              rw [if_pos hf, if_pos (by omega), if_pos (by omega), if_pos (by omega)]
            by_cases hl : Lt y x
            · have ha : Aft (prev l i) x := by rw [e0]; exact hl
              have eB : ∀ k, spec_LotsOk.j1 (k + 1) l q c (i : Int) false x.f0 x.f1 x.f2 x.f3 x.f4 = spec_LotsOk.j2 k l q c (i : Int) (!decide (y.f0 = x.f0 ∧ y.f1 = x.f1)) x.f0 x.f1 x.f2 x.f3 x.f4 := by
                intro k
                simp only [spec_LotsOk.j1]
                rw [if_neg (by decide), if_neg (by omega), w_pred hi h0 (by omega), if_pos (by omega), if_pos (by omega)]
                simp only [rdL, hy]
                by_cases k1 : x.f0 = y.f0
                · rw [if_pos k1]
                  by_cases k2 : x.f1 = y.f1
                  · rw [decide_eq_true (show y.f0 = x.f0 ∧ y.f1 = x.f1 from ⟨k1.symm, k2.symm⟩), k2]
                    simp
                  · rw [decide_eq_false (show ¬(y.f0 = x.f0 ∧ y.f1 = x.f1) from fun g => k2 g.2.symm), show (x.f1 != y.f1) = true by simpa using k2]
                    rfl
                · rw [if_neg k1, decide_eq_false (show ¬(y.f0 = x.f0 ∧ y.f1 = x.f1) from fun g => k1 g.1.symm)]
                  rfl
              by_cases hk : y.f0 = x.f0 ∧ y.f1 = x.f1
              · refine fin q c hf (by rw [e0]; simp only [base]; rw [if_pos hk]) (by rw [e0]; simp only [base]; rw [if_pos hk]) ha fun r hr => ?_
                refine Ev.step (fun k => by rw [eA k, decide_eq_true hl]) (Ev.step (fun k => by show spec_LotsOk.j1 (k + 1) l q c (i : Int) false x.f0 x.f1 x.f2 x.f3 x.f4 = _; rw [eB k, decide_eq_true hk]) (Ev.step (fun k => by show spec_LotsOk.j2 (k + 1) l q c (i : Int) false x.f0 x.f1 x.f2 x.f3 x.f4 = _; rw [e2 k, if_neg (by decide)]) hr))
              · refine fin 0 0 hf (by rw [e0]; simp only [base]; rw [if_neg hk]) (by rw [e0]; simp only [base]; rw [if_neg hk]) ha fun r hr => ?_
                refine Ev.step (fun k => by rw [eA k, decide_eq_true hl]) (Ev.step (fun k => by show spec_LotsOk.j1 (k + 1) l q c (i : Int) false x.f0 x.f1 x.f2 x.f3 x.f4 = _; rw [eB k, decide_eq_false hk]) (Ev.step (fun k => by show spec_LotsOk.j2 (k + 1) l q c (i : Int) true x.f0 x.f1 x.f2 x.f3 x.f4 = _; rw [e2 k, if_pos rfl]) hr))
            · have ha : ¬(Form x ∧ Aft (prev l i) x) := by rw [e0]; exact fun g => hl g.2
              rw [if_neg ha]
              refine .inl (Ev.step (fun k => by rw [eA k, decide_eq_false hl]) (Ev_one fun k => ?_))
              show spec_LotsOk.j1 (k + 1) l q c (i : Int) true x.f0 x.f1 x.f2 x.f3 x.f4 = _
              simp only [spec_LotsOk.j1]
              rw [if_pos trivial]
          · have e0 : prev l i = none := by unfold prev; rw [if_neg h0]
            have ha : Aft (prev l i) x := by rw [e0]; exact trivial
            have hz : (i : Int) = 0 := by omega
            refine fin 0 0 hf (by rw [e0]; rfl) (by rw [e0]; rfl) ha fun r hr => ?_
            refine Ev.step (f := fun k => spec_LotsOk.j1 k l q c (i : Int) false x.f0 x.f1 x.f2 x.f3 x.f4) (fun k => ?_) (Ev.step (f := fun k => spec_LotsOk.j2 k l q c (i : Int) true x.f0 x.f1 x.f2 x.f3 x.f4) (fun k => ?_) (Ev.step (fun k => by show spec_LotsOk.j2 (k + 1) l q c (i : Int) true x.f0 x.f1 x.f2 x.f3 x.f4 = _; rw [e2 k, if_pos rfl]) hr))
            · show spec_LotsOk.l0 (k + 1) l q c (i : Int) = _
              simp only [spec_LotsOk.l0]
              rw [if_pos (by omega), if_pos (by omega)]
              simp only [rdL, hx, right_s, Option.bind_some, decide_eq_true_iff]
              rw [if_pos hf, if_neg (by omega)]
            · show spec_LotsOk.j1 (k + 1) l q c (i : Int) false x.f0 x.f1 x.f2 x.f3 x.f4 = _
              simp only [spec_LotsOk.j1]
              rw [if_neg (by decide), if_pos hz]
        · rw [if_neg (fun g => hf g.1)]
          refine .inl (Ev.step (f := fun k => spec_LotsOk.j1 k l q c (i : Int) true x.f0 x.f1 x.f2 x.f3 x.f4) (fun k => ?_) (Ev_one fun k => ?_))
          · show spec_LotsOk.l0 (k + 1) l q c (i : Int) = _
            simp only [spec_LotsOk.l0]
            rw [if_pos (by omega), if_pos (by omega)]
            simp only [rdL, hx, right_s, Option.bind_some, decide_eq_true_iff]
            rw [if_neg hf]
          · show spec_LotsOk.j1 (k + 1) l q c (i : Int) true x.f0 x.f1 x.f2 x.f3 x.f4 = _
            simp only [spec_LotsOk.j1]
            rw [if_pos trivial]) l.length 0 (0, 0) (by omega) (by omega) ⟨by decide, by decide, by decide, by decide⟩
    refine Ev.congr (fun k => by rw [if_neg hn]; rfl) h
end Go.Proofs.Ytomanpmffjkkgaa.E1
namespace Go.Proofs.Ytomanpmffjkkgaa.E2
open Go Go.RowKit Go.Proofs.Ytomanpmffjkkgaa.P Go.Proofs.YtomanpmffjkkgaaW.PrintWords Go.Proofs.YtomanpmffjkkgaaW.PrintLast Go.Proofs.Ytomanpmffjkkgaa.EV Go.Proofs.Ytomanpmffjkkgaa.I1 Go.Proofs.Ytomanpmffjkkgaa.N1 Go.Proofs.Ytomanpmffjkkgaa.E1
def Own (a b : Int) (x : SL) : Bool := decide (x.f0 = a ∧ x.f1 = b)
def ofL (a b : Int) (l : List SL) : List SL := l.filter (Own a b)
def outL (a b : Int) (l : List SL) : List SL := l.filter fun x => !Own a b x
theorem of_len (a b : Int) (l : List SL) : (ofL a b l).length ≤ l.length := List.length_filter_le _ _
theorem out_len (a b : Int) (l : List SL) : (outL a b l).length ≤ l.length := List.length_filter_le _ _
theorem split_s (l : List SL) (a b : Int) (hl : l.length ≤ 1048577) : Ev (fun k => spec_l5Split.f k l a b) (ofL a b l, outL a b l) := by
  unfold spec_l5Split.f
  have h := Ev_goes (fun k (s : List SL × List SL) i => spec_l5Split.l0 k l a b s.1 s.2 i) l.length (fun i s => (s.1 ++ ofL a b (l.drop i), s.2 ++ outL a b (l.drop i))) (fun i s => s.1.length ≤ i ∧ s.2.length ≤ i)
    (fun s _ => Ev_one fun k => by
      simp only [spec_l5Split.l0]
      rw [if_neg (by omega), List.drop_length]
      simp [ofL, outL])
    (fun i s hi hs => by
      obtain ⟨p, q⟩ := s
      simp only at hs
      have e : l.drop i = l.getD i z37 :: l.drop (i + 1) := drop_getD z37 l i hi
      by_cases h1 : (l.getD i z37).f0 = a ∧ (l.getD i z37).f1 = b
      · refine .inr ⟨(p ++ [l.getD i z37], q), ⟨by show (p ++ [_]).length ≤ i + 1; rw [List.length_append, List.length_singleton]; omega, Nat.le_succ_of_le hs.2⟩, ?_, fun k => ?_⟩
        · have hO : Own a b (l.getD i z37) = true := decide_eq_true h1
          rw [e]
          simp only [ofL, outL]
          rw [List.filter_cons_of_pos hO, List.filter_cons_of_neg (by rw [hO]; decide), List.append_assoc]
          rfl
        · show spec_l5Split.l0 (k + 1) l a b p q (i : Int) = _
          simp only [spec_l5Split.l0]
          rw [if_pos (by omega), if_pos (by omega), w_succ hi (by omega)]
          simp only [rdL]
          rw [if_pos h1.1, if_pos h1.2, if_pos (by omega)]
      · have step : ∀ k, spec_l5Split.l0 (k + 1) l a b p q (i : Int) = spec_l5Split.l0 k l a b p (q ++ [l.getD i z37]) ((i + 1 : Nat) : Int) := fun k => by
          simp only [spec_l5Split.l0]
          rw [if_pos (by omega), if_pos (by omega), w_succ hi (by omega)]
          simp only [rdL]
          by_cases h2 : (l.getD i z37).f0 = a
          · rw [if_pos h2, if_neg fun h3 => h1 ⟨h2, h3⟩, if_pos (by omega)]
          · rw [if_neg h2, if_pos (by omega)]
        refine .inr ⟨(p, q ++ [l.getD i z37]), ⟨Nat.le_succ_of_le hs.1, by show (q ++ [_]).length ≤ i + 1; rw [List.length_append, List.length_singleton]; omega⟩, ?_, step⟩
        have hO : Own a b (l.getD i z37) = false := decide_eq_false h1
        rw [e]
        simp only [ofL, outL]
        rw [List.filter_cons_of_neg (by rw [hO]; decide), List.filter_cons_of_pos (by rw [hO]; decide), List.append_assoc]
        rfl) l.length 0 ([], []) (by omega) (by omega) ⟨Nat.le_refl _, Nat.le_refl _⟩
  exact h
theorem qty_s (l : List SL) (hl : l.length ≤ 1048577) : Ev (fun k => spec_l5Qty.f k l) (impl_LotsOk.sum3 l 0) := by
  unfold spec_l5Qty.f
  have h := Ev_goes (fun k (s : Int) i => spec_l5Qty.l0 k l s i) l.length (fun i s => impl_LotsOk.sum3 (l.drop i) s) (fun _ _ => True)
    (fun s _ => Ev_one fun k => by
      simp only [spec_l5Qty.l0]
      rw [if_neg (by omega), List.drop_length]
      rfl)
    (fun i s hi _ => .inr ⟨wrap64 (s + (l.getD i z37).f3), trivial, by rw [drop_getD z37 l i hi]; rfl, fun k => by
      show spec_l5Qty.l0 (k + 1) l s (i : Int) = _
      simp only [spec_l5Qty.l0]
      rw [if_pos (by omega), if_pos (by omega), w_succ hi (by omega), rdL]⟩) l.length 0 0 (by omega) (by omega) trivial
  exact h
theorem cost_s (l : List SL) (hl : l.length ≤ 1048577) : Ev (fun k => spec_l5Cost.f k l) (impl_LotsOk.sum4 l 0) := by
  unfold spec_l5Cost.f
  have h := Ev_goes (fun k (s : Int) i => spec_l5Cost.l0 k l s i) l.length (fun i s => impl_LotsOk.sum4 (l.drop i) s) (fun _ _ => True)
    (fun s _ => Ev_one fun k => by
      simp only [spec_l5Cost.l0]
      rw [if_neg (by omega), List.drop_length]
      rfl)
    (fun i s hi _ => .inr ⟨wrap64 (s + (l.getD i z37).f4), trivial, by rw [drop_getD z37 l i hi]; rfl, fun k => by
      show spec_l5Cost.l0 (k + 1) l s (i : Int) = _
      simp only [spec_l5Cost.l0]
      rw [if_pos (by omega), if_pos (by omega), w_succ hi (by omega), rdL]⟩) l.length 0 0 (by omega) (by omega) trivial
  exact h
theorem sums_i (l : List SL) (hl : l.length ≤ 1048577) : Ev (fun k => impl_sumLots.f k l) (impl_LotsOk.sum3 l 0, impl_LotsOk.sum4 l 0) := by
  unfold impl_sumLots.f
  have h := Ev_goes (fun k (s : Int × Int) i => impl_sumLots.l0 k s.1 s.2 l (l.length : Int) i) l.length (fun i s => (impl_LotsOk.sum3 (l.drop i) s.1, impl_LotsOk.sum4 (l.drop i) s.2)) (fun _ _ => True)
    (fun s _ => Ev_one fun k => by
      simp only [impl_sumLots.l0]
      rw [if_neg (by omega), List.drop_length]
      rfl)
    (fun i s hi _ => .inr ⟨(wrap64 (s.1 + (l.getD i z37).f3), wrap64 (s.2 + (l.getD i z37).f4)), trivial, by rw [drop_getD z37 l i hi]; rfl, fun k => by
      show impl_sumLots.l0 (k + 1) s.1 s.2 l (l.length : Int) (i : Int) = _
      simp only [impl_sumLots.l0]
      rw [if_pos (by omega), if_pos (by omega), if_pos (by omega), w_succ hi (by omega), rdL]⟩) l.length 0 (0, 0) (by omega) (by omega) trivial
  exact h
def lotsL (l : List SL) (a b : Int) : List SL := if impl_LotsOk.ok l = true then ofL a b l else []
theorem lots_len (l : List SL) (a b : Int) : (lotsL l a b).length ≤ l.length := by
  unfold lotsL
  split
  · exact of_len a b l
  · exact Nat.zero_le _
theorem lotsOf_s (l : List SL) (a b : Int) (hl : l.length ≤ 1048576) : Ev (fun k => spec_LotsOf.f k l a b) (lotsL l a b) := by
  unfold spec_LotsOf.f lotsL
  refine Ev_bind (lotsOk_s l) ?_
  by_cases h : impl_LotsOk.ok l = true
  · rw [if_pos h]
    refine Ev.congr (fun k => if_pos h) ?_
    exact Ev_bind (split_s l a b (by omega)) (Ev_all_k fun k => rfl)
  · rw [if_neg h]
    exact Ev_all_k fun k => if_neg h
theorem lotsOf_i (l : List SL) (a b : Int) (hl : l.length ≤ 1048576) : impl_LotsOf.f l a b = some (lotsL l a b) := by
  unfold impl_LotsOf.f impl_LotsOk.f lotsL
  rw [if_pos (by omega), Option.bind_some]
  by_cases h : impl_LotsOk.ok l = true
  · rw [if_pos h, if_pos h]
    unfold impl_lotsOf.f
    rw [if_pos (by omega)]
    rfl
  · rw [if_neg h, if_neg h]
end Go.Proofs.Ytomanpmffjkkgaa.E2
namespace Go.Proofs.Ytomanpmffjkkgaa.E3
open Go Go.RowKit Go.Proofs.Ytomanpmffjkkgaa.P Go.Proofs.YtomanpmffjkkgaaW.PrintWords Go.Proofs.YtomanpmffjkkgaaW.PrintLast Go.Proofs.Ytomanpmffjkkgaa.EV Go.Proofs.Ytomanpmffjkkgaa.I1 Go.Proofs.Ytomanpmffjkkgaa.N1 Go.Proofs.Ytomanpmffjkkgaa.E1
def mergeL : List SL → List SL → List SL
  | [], ys => ys
  | x :: xs, [] => x :: xs
  | x :: xs, y :: ys => if Lt x y then x :: mergeL xs (y :: ys) else y :: mergeL (x :: xs) ys
termination_by xs ys => xs.length + ys.length
theorem merge_nil (xs : List SL) : mergeL xs [] = xs := by cases xs <;> simp [mergeL]
theorem nil_merge (ys : List SL) : mergeL [] ys = ys := by simp [mergeL]
theorem merge_len : ∀ (xs ys : List SL), (mergeL xs ys).length = xs.length + ys.length
  | [], ys => by simp [mergeL]
  | x :: xs, [] => by simp [mergeL]
  | x :: xs, y :: ys => by
    rw [mergeL]
    split
    · rw [List.length_cons, merge_len xs (y :: ys)]
      simp only [List.length_cons]
      omega
    · rw [List.length_cons, merge_len (x :: xs) ys]
      simp only [List.length_cons]
      omega
termination_by xs ys => xs.length + ys.length
theorem merge_go (a b : List SL) (hm : a.length + b.length ≤ 3000000) : ∀ (n : Nat) (acc : List SL) (i j : Nat), (a.length - i) + (b.length - j) = n → i ≤ a.length → j ≤ b.length → acc.length ≤ i + j →
    Ev (fun k => spec_l5Merge.l0 k a b acc (i : Int) (j : Int)) (acc ++ mergeL (a.drop i) (b.drop j)) := by
  intro n
  induction n with
  | zero =>
    intro acc i j hn hi hj _
    have e1 : a.drop i = [] := List.drop_eq_nil_of_le (by omega)
    have e2 : b.drop j = [] := List.drop_eq_nil_of_le (by omega)
    rw [e1, e2, merge_nil, List.append_nil]
    refine Ev.step (f := fun k => spec_l5Merge.j1 k a b acc (i : Int) (j : Int) false) (fun k => ?_) (Ev_one fun k => ?_)
    · show spec_l5Merge.l0 (k + 1) a b acc (i : Int) (j : Int) = _
      simp only [spec_l5Merge.l0]
      rw [if_neg (by omega), decide_eq_false (by omega)]
    · show spec_l5Merge.j1 (k + 1) a b acc (i : Int) (j : Int) false = _
      simp only [spec_l5Merge.j1]
      rw [if_neg (by decide)]
  | succ n ih =>
    intro acc i j hn hi hj ha
    have e0 : ∀ k, spec_l5Merge.l0 (k + 1) a b acc (i : Int) (j : Int) = spec_l5Merge.j1 k a b acc (i : Int) (j : Int) true := fun k => by
      simp only [spec_l5Merge.l0]
      by_cases h1 : i < a.length
      · rw [if_pos (by omega)]
      · rw [if_neg (by omega), decide_eq_true (by omega)]
    refine Ev.step e0 ?_
    have takeA : i < a.length → mergeL (a.drop i) (b.drop j) = a.getD i z37 :: mergeL (a.drop (i + 1)) (b.drop j) → (∀ k, spec_l5Merge.j1 (k + 1) a b acc (i : Int) (j : Int) true = spec_l5Merge.l0 k a b (acc ++ [a.getD i z37]) ((i + 1 : Nat) : Int) (j : Int)) → Ev (fun k => spec_l5Merge.j1 k a b acc (i : Int) (j : Int) true) (acc ++ mergeL (a.drop i) (b.drop j)) := by
      intro h1 h2 h3
      have h4 := ih (acc ++ [a.getD i z37]) (i + 1) j (by omega) (by omega) hj (by rw [List.length_append, List.length_singleton]; omega)
      rw [h2, show acc ++ a.getD i z37 :: mergeL (a.drop (i + 1)) (b.drop j) = (acc ++ [a.getD i z37]) ++ mergeL (a.drop (i + 1)) (b.drop j) by rw [List.append_assoc]; rfl]
      exact Ev.step h3 h4
    have takeB : j < b.length → mergeL (a.drop i) (b.drop j) = b.getD j z37 :: mergeL (a.drop i) (b.drop (j + 1)) → (∀ k, spec_l5Merge.j1 (k + 1) a b acc (i : Int) (j : Int) true = spec_l5Merge.l0 k a b (acc ++ [b.getD j z37]) (i : Int) ((j + 1 : Nat) : Int)) → Ev (fun k => spec_l5Merge.j1 k a b acc (i : Int) (j : Int) true) (acc ++ mergeL (a.drop i) (b.drop j)) := by
      intro h1 h2 h3
      have h4 := ih (acc ++ [b.getD j z37]) i (j + 1) (by omega) hi (by omega) (by rw [List.length_append, List.length_singleton]; omega)
      rw [h2, show acc ++ b.getD j z37 :: mergeL (a.drop i) (b.drop (j + 1)) = (acc ++ [b.getD j z37]) ++ mergeL (a.drop i) (b.drop (j + 1)) by rw [List.append_assoc]; rfl]
      exact Ev.step h3 h4
    by_cases hb : j = b.length
    · have h1 : i < a.length := by omega
      refine takeA h1 (by rw [show b.drop j = [] from List.drop_eq_nil_of_le (by omega), merge_nil, merge_nil, drop_getD z37 a i h1]) fun k => ?_
      simp only [spec_l5Merge.j1]
      rw [if_pos trivial, if_pos (by omega), if_pos (by omega), if_pos (by omega), if_pos (by omega), w_succ h1 (by omega)]
      simp only [rdL]
    · have h2 : j < b.length := by omega
      by_cases h1 : i < a.length
      · by_cases hl : Lt (a.getD i z37) (b.getD j z37)
        · refine takeA h1 (by rw [drop_getD z37 a i h1, drop_getD z37 b j h2, mergeL, if_pos hl]) fun k => ?_
          simp only [spec_l5Merge.j1]
          rw [if_pos trivial, if_neg (by omega), if_pos (by omega), if_pos (by omega), if_pos (by omega), if_pos (by omega), w_succ h1 (by omega)]
          simp only [rdL, before_s, Option.bind_some, decide_eq_true_iff]
          rw [if_pos hl, if_pos (by omega)]
        · refine takeB h2 (by rw [drop_getD z37 a i h1, drop_getD z37 b j h2, mergeL, if_neg hl]) fun k => ?_
          simp only [spec_l5Merge.j1]
          rw [if_pos trivial, if_neg (by omega), if_pos (by omega), if_pos (by omega), if_pos (by omega), if_pos (by omega), w_succ h2 (by omega)]
          simp only [rdL, before_s, Option.bind_some, decide_eq_true_iff]
          rw [if_neg hl, if_pos (by omega)]
      · refine takeB h2 (by rw [show a.drop i = [] from List.drop_eq_nil_of_le (by omega), nil_merge, nil_merge, drop_getD z37 b j h2]) fun k => ?_
        simp only [spec_l5Merge.j1]
        rw [if_pos trivial, if_neg (by omega), if_neg (by omega), if_pos (by omega), if_pos (by omega), if_pos (by omega), w_succ h2 (by omega)]
        simp only [rdL]
theorem merge_s (a b : List SL) (hm : a.length + b.length ≤ 3000000) : Ev (fun k => spec_l5Merge.f k a b) (mergeL a b) := by
  unfold spec_l5Merge.f
  have h := merge_go a b hm _ [] 0 0 rfl (Nat.zero_le _) (Nat.zero_le _) (Nat.le_refl _)
  rw [List.drop_zero, List.drop_zero, List.nil_append] at h
  exact h
end Go.Proofs.Ytomanpmffjkkgaa.E3
namespace Go.Proofs.Ytomanpmffjkkgaa.E4
open Go Go.RowKit Go.Proofs.Ytomanpmffjkkgaa.P Go.Proofs.YtomanpmffjkkgaaW.PrintWords Go.Proofs.YtomanpmffjkkgaaW.PrintLast Go.Proofs.Ytomanpmffjkkgaa.EV Go.Proofs.Ytomanpmffjkkgaa.I1 Go.Proofs.Ytomanpmffjkkgaa.N1 Go.Proofs.Ytomanpmffjkkgaa.E1 Go.Proofs.Ytomanpmffjkkgaa.E2 Go.Proofs.Ytomanpmffjkkgaa.E3
def openL (l : List SL) (x : SL) : List SL × Int := if impl_LotsOk.ok l = true ∧ E1.Form x then (if impl_LotsOk.ok (mergeL l [x]) = true then (mergeL l [x], 0) else (l, 3)) else ([], 1)
theorem open_len (l : List SL) (x : SL) : (openL l x).1.length ≤ l.length + 1 := by
  unfold openL
  split
  · split
    · show (mergeL l [x]).length ≤ _
      rw [merge_len]
      simp
    · exact Nat.le_succ _
  · exact Nat.zero_le _
theorem open_s (l : List SL) (x : SL) (hl : l.length ≤ 1048576) : Ev (fun k => spec_LotOpen.f k l x.f0 x.f1 x.f2 x.f3 x.f4) (openL l x) := by
  unfold spec_LotOpen.f openL
  have bad : Ev (fun k => spec_LotOpen.j0 k l true x.f0 x.f1 x.f2 x.f3 x.f4) (([] : List SL), (1 : Int)) := Ev_one fun k => by
    simp only [spec_LotOpen.j0]
    rw [if_pos trivial]
  refine Ev_bind (lotsOk_s l) ?_
  by_cases h : impl_LotsOk.ok l = true
  · refine Ev.congr (fun k => by rw [if_pos h, right_s, Option.bind_some]) ?_
    by_cases hf : E1.Form x
    · rw [if_pos ⟨h, hf⟩]
      refine Ev.step (f := fun k => (spec_l5Merge.f k l [x]).bind fun t => (spec_LotsOk.f k t).bind fun t2 => if t2 = true then some (t, 0) else (some (([] : List SL) : List SL)).bind fun y => if y.length + l.length < 3518437208883 then some (y ++ l, 3) else none) (fun k => ?_) ?_
      · rw [decide_eq_true hf]
        simp only [spec_LotOpen.j0]
        rw [if_neg (by decide)]
      · refine Ev_bind (merge_s l [x] (by simp; omega)) (Ev_bind (lotsOk_s _) ?_)
        by_cases ho : impl_LotsOk.ok (mergeL l [x]) = true
        · exact Ev_all_k fun k => by
            rw [if_pos ho, if_pos ho]
        · exact Ev_all_k fun k => by
            rw [if_neg ho, if_neg ho, Option.bind_some, if_pos (by simp; omega), List.nil_append]
    · rw [if_neg fun g => hf g.2]
      exact Ev.congr (fun k => by rw [decide_eq_false hf]; rfl) bad
  · rw [if_neg fun g => h g.1]
    exact Ev.congr (fun k => if_neg h) bad
end Go.Proofs.Ytomanpmffjkkgaa.E4
namespace Go.Proofs.Ytomanpmffjkkgaa.E5
open Go Go.RowKit Go.Proofs.Ytomanpmffjkkgaa.P Go.Proofs.YtomanpmffjkkgaaW.PrintWords Go.Proofs.YtomanpmffjkkgaaW.PrintLast Go.Proofs.Ytomanpmffjkkgaa.EV Go.Proofs.Ytomanpmffjkkgaa.I1 Go.Proofs.Ytomanpmffjkkgaa.N1 Go.Proofs.Ytomanpmffjkkgaa.E1 Go.Proofs.Ytomanpmffjkkgaa.E2 Go.Proofs.Ytomanpmffjkkgaa.E3
def Key (x y : SL) : Prop := x.f0 = y.f0 ∧ x.f1 = y.f1 ∧ x.f2 = y.f2
theorem tri (x y : SL) : Lt x y ∨ Lt y x ∨ Key x y := by
  unfold Lt Key
  omega
theorem Lt.not {x y : SL} (h : Lt x y) : ¬Lt y x := by
  unfold Lt at *
  omega
theorem Lt.nkey {x y : SL} (h : Lt x y) : ¬Key x y := by
  unfold Lt Key at *
  omega
theorem Lt.nkey' {x y : SL} (h : Lt x y) : ¬Key y x := by
  unfold Lt Key at *
  omega
theorem chn_pw : ∀ (l : List SL) (y : SL), Chn (some y) l → (y :: l).Pairwise Lt
  | [], y, _ => by simp
  | x :: xs, y, h => by
    have ih := chn_pw xs x h.2
    refine List.pairwise_cons.2 ⟨fun z hz => ?_, ih⟩
    exact Chn.all h z hz
theorem right_pw {l : List SL} (h : Chn none l) : l.Pairwise Lt := by
  cases l with
  | nil => exact List.Pairwise.nil
  | cons x xs => exact chn_pw xs x h
theorem pw_chn : ∀ (l : List SL) (y : SL), (y :: l).Pairwise Lt → Chn (some y) l
  | [], y, _ => trivial
  | x :: xs, y, h => by
    have h2 := List.pairwise_cons.1 h
    exact ⟨h2.1 x (List.mem_cons_self ..), pw_chn xs x h2.2⟩
theorem pw_chn0 {l : List SL} (h : l.Pairwise Lt) : Chn none l := by
  cases l with
  | nil => trivial
  | cons x xs => exact pw_chn xs x h
theorem pw_uniq : ∀ {l : List SL}, l.Pairwise Lt → ∀ x ∈ l, ∀ y ∈ l, Key x y → x = y
  | [], _, x, hx => by cases hx
  | z :: zs, h, x, hx => by
    intro y hy hk
    have h2 := List.pairwise_cons.1 h
    rcases List.mem_cons.1 hx with e1 | hx1
    · rcases List.mem_cons.1 hy with e2 | hy1
      · rw [e1, e2]
      · rw [e1] at hk
        exact absurd hk (Lt.nkey (h2.1 y hy1))
    · rcases List.mem_cons.1 hy with e2 | hy1
      · rw [e2] at hk
        exact absurd hk (Lt.nkey' (h2.1 x hx1))
      · exact pw_uniq h2.2 x hx1 y hy1 hk
theorem merge_perm : ∀ (xs ys : List SL), (mergeL xs ys).Perm (xs ++ ys)
  | [], ys => by rw [nil_merge]; exact List.Perm.refl _
  | x :: xs, [] => by rw [merge_nil, List.append_nil]
  | x :: xs, y :: ys => by
    rw [mergeL]
    split
    · exact (merge_perm xs (y :: ys)).cons x
    · refine ((merge_perm (x :: xs) ys).cons y).trans ?_
      exact (List.perm_middle (l₁ := x :: xs) (l₂ := ys) (a := y)).symm
termination_by xs ys => xs.length + ys.length
theorem merge_pw : ∀ (xs ys : List SL), xs.Pairwise Lt → ys.Pairwise Lt → (∀ x ∈ xs, ∀ y ∈ ys, ¬Key x y) → (mergeL xs ys).Pairwise Lt
  | [], ys, _, h, _ => by rw [nil_merge]; exact h
  | x :: xs, [], h, _, _ => by rw [merge_nil]; exact h
  | x :: xs, y :: ys, hx, hy, hk => by
    have hx2 := List.pairwise_cons.1 hx
    have hy2 := List.pairwise_cons.1 hy
    rw [mergeL]
    split
    · rename_i hl
      refine List.pairwise_cons.2 ⟨fun z hz => ?_, merge_pw xs (y :: ys) hx2.2 hy fun a ha b hb => hk a (List.mem_cons_of_mem _ ha) b hb⟩
      rcases List.mem_append.1 ((merge_perm xs (y :: ys)).mem_iff.1 hz) with h | h
      · exact hx2.1 z h
      · rcases List.mem_cons.1 h with rfl | h
        · exact hl
        · exact hl.trans (hy2.1 z h)
    · rename_i hl
      have hl2 : Lt y x := by
        rcases tri x y with h | h | h
        · exact absurd h hl
        · exact h
        · exact absurd h (hk x (List.mem_cons_self ..) y (List.mem_cons_self ..))
      refine List.pairwise_cons.2 ⟨fun z hz => ?_, merge_pw (x :: xs) ys hx hy2.2 fun a ha b hb => hk a ha b (List.mem_cons_of_mem _ hb)⟩
      rcases List.mem_append.1 ((merge_perm (x :: xs) ys).mem_iff.1 hz) with h | h
      · rcases List.mem_cons.1 h with rfl | h
        · exact hl2
        · exact hl2.trans (hx2.1 z h)
      · exact hy2.1 z h
termination_by xs ys => xs.length + ys.length
theorem srt_eq {m s : List SL} (hp : m.Perm s) (hs : s.Pairwise Lt) : impl_withLots.srt m = s := by
  unfold impl_withLots.srt
  have hle : ∀ x y : SL, (!decide (impl_LotsOk.cmp y x < 0)) = true ↔ ¬Lt y x := fun x y => by
    have h := impl_withLots.cmp_iff y x
    have h2 : (impl_LotsOk.cmp y x < 0) ↔ Lt y x := h
    rw [Bool.not_eq_true', decide_eq_false_iff_not, h2]
  have h1 := List.pairwise_mergeSort (le := fun x y => !decide (impl_LotsOk.cmp y x < 0)) (fun a b c h g => by
    rw [hle] at *
    unfold Lt at *
    omega) (fun a b => by
    rw [Bool.or_eq_true, hle, hle]
    unfold Lt
    omega) m
  refine List.Perm.eq_of_pairwise (le := fun x y => (!decide (impl_LotsOk.cmp y x < 0)) = true) (fun a b ha hb h g => ?_) h1 (hs.imp fun h => (hle _ _).2 (Lt.not h)) ((List.mergeSort_perm _ _).trans hp)
  rw [hle] at h g
  have ha2 : a ∈ s := (((List.mergeSort_perm m _).trans hp).mem_iff).1 ha
  refine pw_uniq hs a ha2 b hb ?_
  rcases tri a b with k | k | k
  · exact absurd k g
  · exact absurd k h
  · exact k
theorem with_i (l : List SL) (a b : Int) (m s : List SL) (hl : l.length ≤ 1048576) (hm : m.length ≤ 1048576) (hw : l.Pairwise Lt) (hp : m.Perm s) (hs : s.Pairwise Lt) (ho : ∀ x ∈ s, x.f0 = a ∧ x.f1 = b) :
    impl_withLots.f l a b m = some (mergeL (outL a b l) s) ∧ (mergeL (outL a b l) s).Pairwise Lt := by
  have hr : impl_withLots.rest l a b = outL a b l := rfl
  have hrp : (outL a b l).Pairwise Lt := hw.filter _
  have hk : ∀ x ∈ outL a b l, ∀ y ∈ s, ¬Key x y := fun x hx y hy k => by
    have h1 := (List.mem_filter.1 hx).2
    have h2 := ho y hy
    unfold Key at k
    unfold Own at h1
    rw [Bool.not_eq_true', decide_eq_false_iff_not] at h1
    exact h1 ⟨k.1.trans h2.1, k.2.1.trans h2.2⟩
  have hmp := merge_pw _ _ hrp hs hk
  have hpp : (outL a b l ++ m).Perm (mergeL (outL a b l) s) := (hp.append_left _).trans (merge_perm _ _).symm
  refine ⟨?_, hmp⟩
  unfold impl_withLots.f
  rw [hr, if_pos ⟨by omega, by omega, fun x hx y hy k => by
    have := pw_uniq hmp x (hpp.mem_iff.1 hx) y (hpp.mem_iff.1 hy) k
    rw [this]
    exact ⟨rfl, rfl⟩⟩, srt_eq hpp hmp]
end Go.Proofs.Ytomanpmffjkkgaa.E5
namespace Go.Proofs.Ytomanpmffjkkgaa.L1
open Go Go.RowKit
theorem u64w (n : Int) : IntKind.u64.wrap n = n % 18446744073709551616 := by simp [IntKind.wrap, IntKind.bits, IntKind.signed]
theorem u64w_id (n : Int) (h0 : 0 ≤ n) (h1 : n < 18446744073709551616) : IntKind.u64.wrap n = n := by rw [u64w]; omega
theorem wraps_u64 (n : Int) (h₀ : 0 ≤ n) (h₁ : n < 2 ^ 64) : IntKind.u64.wrap n = n := u64w_id n h₀ (by simpa using h₁)
theorem and32 (x : Int) (h0 : 0 ≤ x) (h1 : x < 18446744073709551616) : Go.bits .and .u64 x 4294967295 = x % 4294967296 :=
  bits_mask .u64 64 (by decide) wraps_u64 32 (by decide) x h0 (by simpa using h1)
theorem w64_id (n : Int) (h0 : -9223372036854775808 ≤ n) (h1 : n ≤ 9223372036854775807) : wrap64 n = n := by unfold wrap64; omega
theorem mul64 (a b : Int) (ha0 : 0 ≤ a) (ha : a < 18446744073709551616) (hb0 : 0 ≤ b) (hb : b < 18446744073709551616) :
    IntKind.u64.wrap ((IntKind.u64.wrap ((IntKind.u64.wrap ((a / 4294967296) * (b / 4294967296))) + ((IntKind.u64.wrap ((IntKind.u64.wrap ((a / 4294967296) * (Go.bits .and .u64 b 4294967295))) + ((IntKind.u64.wrap ((Go.bits .and .u64 a 4294967295) * (Go.bits .and .u64 b 4294967295))) / 4294967296))) / 4294967296))) + ((IntKind.u64.wrap ((Go.bits .and .u64 (IntKind.u64.wrap ((IntKind.u64.wrap ((a / 4294967296) * (Go.bits .and .u64 b 4294967295))) + ((IntKind.u64.wrap ((Go.bits .and .u64 a 4294967295) * (Go.bits .and .u64 b 4294967295))) / 4294967296))) 4294967295) + (IntKind.u64.wrap ((Go.bits .and .u64 a 4294967295) * (b / 4294967296))))) / 4294967296)) = a * b / 18446744073709551616 := by
  obtain ⟨x, rfl⟩ := Int.eq_ofNat_of_zero_le ha0
  obtain ⟨y, rfl⟩ := Int.eq_ofNat_of_zero_le hb0
  have hx : x < 18446744073709551616 := by omega
  have hy : y < 18446744073709551616 := by omega
  obtain ⟨h1, h2, h3, h4⟩ := Lib.mul64_hi x y hx hy
  have e1 : ((x : Int) / 4294967296) = ((x / 4294967296 : Nat) : Int) := by omega
  have e2 : ((y : Int) / 4294967296) = ((y / 4294967296 : Nat) : Int) := by omega
  have e3 : ((x : Int) % 4294967296) = ((x % 4294967296 : Nat) : Int) := by omega
  have e4 : ((y : Int) % 4294967296) = ((y % 4294967296 : Nat) : Int) := by omega
  have ep : ((x : Int) * (y : Int)) = ((x * y : Nat) : Int) := (Int.natCast_mul _ _).symm
  have eh : ((x * y / 18446744073709551616 : Nat) : Int) = ((x * y : Nat) : Int) / 18446744073709551616 := by omega
  have ma := Lib.half_mul_le (a := x / 4294967296) (b := y / 4294967296) (by omega) (by omega)
  have mb := Lib.half_mul_le (a := x / 4294967296) (b := y % 4294967296) (by omega) (by omega)
  have mc := Lib.half_mul_le (a := x % 4294967296) (b := y / 4294967296) (by omega) (by omega)
  have md := Lib.half_mul_le (a := x % 4294967296) (b := y % 4294967296) (by omega) (by omega)
  rw [and32 _ ha0 ha, and32 _ hb0 hb, e1, e2, e3, e4, ep, ← eh, ← h4]
  have p1 : (((x / 4294967296 : Nat) : Int) * ((y / 4294967296 : Nat) : Int)) = ((x / 4294967296 * (y / 4294967296) : Nat) : Int) := (Int.natCast_mul _ _).symm
  have p2 : (((x / 4294967296 : Nat) : Int) * ((y % 4294967296 : Nat) : Int)) = ((x / 4294967296 * (y % 4294967296) : Nat) : Int) := (Int.natCast_mul _ _).symm
  have p3 : (((x % 4294967296 : Nat) : Int) * ((y / 4294967296 : Nat) : Int)) = ((x % 4294967296 * (y / 4294967296) : Nat) : Int) := (Int.natCast_mul _ _).symm
  have p4 : (((x % 4294967296 : Nat) : Int) * ((y % 4294967296 : Nat) : Int)) = ((x % 4294967296 * (y % 4294967296) : Nat) : Int) := (Int.natCast_mul _ _).symm
  rw [p1, p2, p3, p4]
  generalize x / 4294967296 * (y / 4294967296) = a at *
  generalize x / 4294967296 * (y % 4294967296) = b at *
  generalize x % 4294967296 * (y / 4294967296) = c at *
  generalize x % 4294967296 * (y % 4294967296) = d at *
  have q1 : IntKind.u64.wrap (a : Int) = a := u64w_id _ (by omega) (by omega)
  have q2 : IntKind.u64.wrap (b : Int) = b := u64w_id _ (by omega) (by omega)
  have q3 : IntKind.u64.wrap (c : Int) = c := u64w_id _ (by omega) (by omega)
  have q4 : IntKind.u64.wrap (d : Int) = d := u64w_id _ (by omega) (by omega)
  rw [q1, q2, q3, q4]
  have q5 : IntKind.u64.wrap ((b : Int) + (d : Int) / 4294967296) = (b : Int) + (d : Int) / 4294967296 := u64w_id _ (by omega) (by omega)
  rw [q5, and32 _ (by omega) (by omega)]
  have q6 : IntKind.u64.wrap (((b : Int) + (d : Int) / 4294967296) % 4294967296 + (c : Int)) = ((b : Int) + (d : Int) / 4294967296) % 4294967296 + (c : Int) := u64w_id _ (by omega) (by omega)
  have q7 : IntKind.u64.wrap ((a : Int) + ((b : Int) + (d : Int) / 4294967296) / 4294967296) = (a : Int) + ((b : Int) + (d : Int) / 4294967296) / 4294967296 := u64w_id _ (by omega) (by omega)
  rw [q6, q7, u64w]
  omega
end Go.Proofs.Ytomanpmffjkkgaa.L1
namespace Go.Proofs.Ytomanpmffjkkgaa.A2
open Go Go.RowKit Go.Proofs.Ytomanpmffjkkgaa.P Go.Proofs.YtomanpmffjkkgaaW.PrintWords Go.Proofs.YtomanpmffjkkgaaW.PrintLast Go.Proofs.YtomanpmffjkkgaaW.PrintMore Go.Proofs.Ytomanpmffjkkgaa.EV Go.Proofs.Ytomanpmffjkkgaa.L1 Go.Proofs.Ytomanpmffjkkgaa.I1
def Bits (x : Int) (n : Nat) : Prop := (x = 0 ∧ n = 0) ∨ (0 < n ∧ 2 ^ (n - 1) ≤ x ∧ x < 2 ^ n)
def tab : ByteArray := (⟨#[0, 1, 2, 2, 3, 3, 3, 3, 4, 4, 4, 4, 4, 4, 4, 4, 5, 5, 5, 5, 5, 5, 5, 5, 5, 5, 5, 5, 5, 5, 5, 5, 6, 6, 6, 6, 6, 6, 6, 6, 6, 6, 6, 6, 6, 6, 6, 6, 6, 6, 6, 6, 6, 6, 6, 6, 6, 6, 6, 6, 6, 6, 6, 6, 7, 7, 7, 7, 7, 7, 7, 7, 7, 7, 7, 7, 7, 7, 7, 7, 7, 7, 7, 7, 7, 7, 7, 7, 7, 7, 7, 7, 7, 7, 7, 7, 7, 7, 7, 7, 7, 7, 7, 7, 7, 7, 7, 7, 7, 7, 7, 7, 7, 7, 7, 7, 7, 7, 7, 7, 7, 7, 7, 7, 7, 7, 7, 7, 8, 8, 8, 8, 8, 8, 8, 8, 8, 8, 8, 8, 8, 8, 8, 8, 8, 8, 8, 8, 8, 8, 8, 8, 8, 8, 8, 8, 8, 8, 8, 8, 8, 8, 8, 8, 8, 8, 8, 8, 8, 8, 8, 8, 8, 8, 8, 8, 8, 8, 8, 8, 8, 8, 8, 8, 8, 8, 8, 8, 8, 8, 8, 8, 8, 8, 8, 8, 8, 8, 8, 8, 8, 8, 8, 8, 8, 8, 8, 8, 8, 8, 8, 8, 8, 8, 8, 8, 8, 8, 8, 8, 8, 8, 8, 8, 8, 8, 8, 8, 8, 8, 8, 8, 8, 8, 8, 8, 8, 8, 8, 8, 8, 8, 8, 8, 8, 8, 8, 8, 8, 8, 8, 8, 8, 8, 8, 8]⟩ : ByteArray)
theorem tab8 : ∀ x : Fin 256, 0 ≤ bt tab (x.val : Int) ∧ bt tab (x.val : Int) ≤ 8 ∧ ((x.val = 0 ∧ bt tab (x.val : Int) = 0) ∨ (0 < bt tab (x.val : Int) ∧ (2 : Int) ^ ((bt tab (x.val : Int)).toNat - 1) ≤ x.val ∧ (x.val : Int) < 2 ^ (bt tab (x.val : Int)).toNat)) := by decide +kernel
theorem tab_at (x : Int) (h0 : 0 ≤ x) (h1 : x < 256) : ∃ n : Nat, bt tab x = (n : Int) ∧ n ≤ 8 ∧ Bits x n := by
  obtain ⟨m, rfl⟩ := Int.eq_ofNat_of_zero_le h0
  obtain ⟨a, b, c⟩ : 0 ≤ bt tab (m : Int) ∧ bt tab (m : Int) ≤ 8 ∧ ((m = 0 ∧ bt tab (m : Int) = 0) ∨ (0 < bt tab (m : Int) ∧ (2 : Int) ^ ((bt tab (m : Int)).toNat - 1) ≤ m ∧ (m : Int) < 2 ^ (bt tab (m : Int)).toNat)) := tab8 ⟨m, by omega⟩
  refine ⟨(bt tab (m : Int)).toNat, by omega, by omega, ?_⟩
  rcases c with ⟨c1, c2⟩ | ⟨c1, c2, c3⟩
  · exact .inl ⟨by omega, by omega⟩
  · exact .inr ⟨by omega, c2, c3⟩
theorem bits_up {x y : Int} {n : Nat} (s : Nat) (hs : y = x / 2 ^ s) (hy : 0 < y) (h : Bits y n) : Bits x (n + s) := by
  rcases h with ⟨h, _⟩ | ⟨h0, h1, h2⟩
  · omega
  · have hp : (0 : Int) < 2 ^ s := Int.pow_pos (by decide)
    have e1 : (2 : Int) ^ (n + s - 1) = 2 ^ (n - 1) * 2 ^ s := by rw [← Int.pow_add]; congr 1; omega
    have e2 : (2 : Int) ^ (n + s) = 2 ^ n * 2 ^ s := Int.pow_add _ _ _
    refine .inr ⟨by omega, ?_, ?_⟩
    · rw [e1]
      exact Int.le_trans (Int.mul_le_mul_of_nonneg_right h1 (Int.le_of_lt hp)) (by rw [hs]; exact Int.ediv_mul_le x (Int.ne_of_gt hp))
    · rw [e2]
      have := Int.lt_ediv_add_one_mul_self x hp
      rw [← hs] at this
      exact Int.lt_of_lt_of_le this (Int.mul_le_mul_of_nonneg_right (by omega) (Int.le_of_lt hp))
def body8 (x c : Int) : Option Int := if x ≥ 65536 then (if (x / 65536) ≥ 256 then (if 0 ≤ (((x / 65536) / 256) % 256) then (if (((x / 65536) / 256) % 256) < 256 then (some (wrap64 ((wrap64 ((wrap64 (c + 16)) + 8)) + (wrap64 (bt tab (((x / 65536) / 256) % 256)))))) else (none)) else (none)) else (if 0 ≤ ((x / 65536) % 256) then (if ((x / 65536) % 256) < 256 then (some (wrap64 ((wrap64 (c + 16)) + (wrap64 (bt tab ((x / 65536) % 256)))))) else (none)) else (none))) else (if x ≥ 256 then (if 0 ≤ ((x / 256) % 256) then (if ((x / 256) % 256) < 256 then (some (wrap64 ((wrap64 (c + 8)) + (wrap64 (bt tab ((x / 256) % 256)))))) else (none)) else (none)) else (if 0 ≤ ((x) % 256) then (if ((x) % 256) < 256 then (some (wrap64 (c + (wrap64 (bt tab ((x) % 256)))))) else (none)) else (none)))
theorem body8_is (k : Nat) (x c : Int) : bits_Len64.j0 (k + 1) x c = body8 x c := rfl
theorem len64j (x c : Int) (h0 : 0 ≤ x) (h1 : x < 4294967296) (hc : 0 ≤ c) (hc2 : c ≤ 32) : ∃ n : Nat, n ≤ 32 ∧ Bits x n ∧ ∀ k, bits_Len64.j0 (k + 1) x c = some (c + n) := by
  by_cases a : x ≥ 65536
  · by_cases b : x / 65536 ≥ 256
    · obtain ⟨n, e, hn, hb⟩ := tab_at (x / 65536 / 256) (by omega) (by omega)
      refine ⟨n + 24, by omega, bits_up 24 (by omega) (by omega) hb, fun k => ?_⟩
      rw [body8_is]
      unfold body8
      rw [if_pos a, if_pos b, show x / 65536 / 256 % 256 = x / 65536 / 256 by omega, if_pos (by omega), if_pos (by omega)]
      rw [e, w64_id (c + 16) (by omega) (by omega), w64_id (c + 16 + 8) (by omega) (by omega), w64_id (n : Int) (by omega) (by omega), w64_id _ (by omega) (by omega)]
      exact congrArg some (by omega)
    · obtain ⟨n, e, hn, hb⟩ := tab_at (x / 65536) (by omega) (by omega)
      refine ⟨n + 16, by omega, bits_up 16 (by omega) (by omega) hb, fun k => ?_⟩
      rw [body8_is]
      unfold body8
      rw [if_pos a, if_neg b, show x / 65536 % 256 = x / 65536 by omega, if_pos (by omega), if_pos (by omega)]
      rw [e, w64_id (c + 16) (by omega) (by omega), w64_id (n : Int) (by omega) (by omega), w64_id _ (by omega) (by omega)]
      exact congrArg some (by omega)
  · by_cases b : x ≥ 256
    · obtain ⟨n, e, hn, hb⟩ := tab_at (x / 256) (by omega) (by omega)
      refine ⟨n + 8, by omega, bits_up 8 (by omega) (by omega) hb, fun k => ?_⟩
      rw [body8_is]
      unfold body8
      rw [if_neg a, if_pos b, show x / 256 % 256 = x / 256 by omega, if_pos (by omega), if_pos (by omega)]
      rw [e, w64_id (c + 8) (by omega) (by omega), w64_id (n : Int) (by omega) (by omega), w64_id _ (by omega) (by omega)]
      exact congrArg some (by omega)
    · obtain ⟨n, e, hn, hb⟩ := tab_at x (by omega) (by omega)
      refine ⟨n, by omega, hb, fun k => ?_⟩
      rw [body8_is]
      unfold body8
      rw [if_neg a, if_neg b, show x % 256 = x by omega, if_pos (by omega), if_pos (by omega)]
      rw [e, w64_id (n : Int) (by omega) (by omega), w64_id _ (by omega) (by omega)]
theorem zeros64 (y : Int) (h0 : 0 < y) (h1 : y < 18446744073709551616) : ∃ s : Nat, s ≤ 63 ∧ 9223372036854775808 ≤ y * 2 ^ s ∧ y * 2 ^ s < 18446744073709551616 ∧ ∀ k, bits_LeadingZeros64.f (k + 1) y = some (s : Int) := by
  have fin : ∀ n : Nat, n ≤ 64 → Bits y n → ∃ s : Nat, s ≤ 63 ∧ (s : Int) = 64 - n ∧ 9223372036854775808 ≤ y * 2 ^ s ∧ y * 2 ^ s < 18446744073709551616 := by
    intro n hn hb
    rcases hb with ⟨h, _⟩ | ⟨a, b, c⟩
    · omega
    · have hp : (0 : Int) < 2 ^ (64 - n) := Int.pow_pos (by decide)
      refine ⟨64 - n, by omega, by omega, ?_, ?_⟩
      · have e : (9223372036854775808 : Int) = 2 ^ (n - 1) * 2 ^ (64 - n) := by rw [← Int.pow_add, show n - 1 + (64 - n) = 63 by omega]; decide
        rw [e]
        exact Int.mul_le_mul_of_nonneg_right b (Int.le_of_lt hp)
      · have e : (18446744073709551616 : Int) = 2 ^ n * 2 ^ (64 - n) := by rw [← Int.pow_add, show n + (64 - n) = 64 by omega]; decide
        rw [e]
        exact Int.mul_lt_mul_of_pos_right c hp
  by_cases a : y ≥ 4294967296
  · obtain ⟨n, hn, hb, e⟩ := len64j (y / 4294967296) 32 (by omega) (by omega) (by decide) (by decide)
    obtain ⟨s, s0, s1, s2, s3⟩ := fin (n + 32) (by omega) (bits_up 32 (by omega) (by omega) hb)
    refine ⟨s, s0, s2, s3, fun k => ?_⟩
    unfold bits_LeadingZeros64.f bits_Len64.f
    rw [if_pos a, e, Option.bind_some, w64_id _ (by omega) (by omega)]
    exact congrArg some (by omega)
  · obtain ⟨n, hn, hb, e⟩ := len64j y 0 (by omega) (by omega) (by decide) (by decide)
    obtain ⟨s, s0, s1, s2, s3⟩ := fin n (by omega) hb
    refine ⟨s, s0, s2, s3, fun k => ?_⟩
    unfold bits_LeadingZeros64.f bits_Len64.f
    rw [if_neg a, e, Option.bind_some, w64_id _ (by omega) (by omega)]
    exact congrArg some (by omega)
structure Trial (yn1 yn0 n u q r : Int) : Prop where
  q0 : 0 ≤ q
  q1 : q ≤ 4294967297
  r0 : 0 ≤ r
  r1 : r < 4294967296
  e : q * yn1 + r = n
  up : n * 4294967296 + u < (q * yn1) * 4294967296 + q * yn0 + yn1 * 4294967296 + yn0
structure Halves (yn1 yn0 n u : Int) : Prop where
  a0 : 2147483648 ≤ yn1
  a1 : yn1 < 4294967296
  b0 : 0 ≤ yn0
  b1 : yn0 < 4294967296
  u0 : 0 ≤ u
  u1 : u < 4294967296
  n0 : 0 ≤ n
  n1 : n < yn1 * 4294967296 + yn0
theorem digit_lt {yn1 yn0 n u q : Int} (h : Halves yn1 yn0 n u) (hq : (q * yn1) * 4294967296 + q * yn0 ≤ n * 4294967296 + u) : q < 4294967296 := by
  obtain ⟨a0, a1, b0, b1, u0, u1, n0, n1⟩ := h
  rcases (by omega : q < 4294967296 ∨ 4294967296 ≤ q) with hlt | hge
  · exact hlt
  · exfalso
    have p1 : 4294967296 * yn1 ≤ q * yn1 := Int.mul_le_mul_of_nonneg_right hge (by omega)
    have p2 : 4294967296 * yn0 ≤ q * yn0 := Int.mul_le_mul_of_nonneg_right hge b0
    generalize q * yn1 = A at *
    generalize q * yn0 = C at *
    omega
theorem trial_down {yn1 yn0 n u q r : Int} (h : Halves yn1 yn0 n u) (t : Trial yn1 yn0 n u q r) (ht : 4294967296 ≤ q ∨ 4294967296 * r + u < q * yn0) :
    1 ≤ q ∧ n * 4294967296 + u < (q * yn1) * 4294967296 + q * yn0 ∧ (q - 1) * yn1 = q * yn1 - yn1 ∧ (q - 1) * yn0 = q * yn0 - yn0 ∧ q * yn0 - yn0 ≤ 18446744069414584320 := by
  obtain ⟨a0, a1, b0, b1, u0, u1, n0, n1⟩ := h
  obtain ⟨q0, q1, r0, r1, e, up⟩ := t
  have e1 : (q - 1) * yn1 = q * yn1 - yn1 := by rw [Int.sub_mul, Int.one_mul]
  have e0 : (q - 1) * yn0 = q * yn0 - yn0 := by rw [Int.sub_mul, Int.one_mul]
  have h1 : 1 ≤ q := by
    rcases (by omega : q = 0 ∨ 1 ≤ q) with hz | hz
    · subst hz
      rw [Int.zero_mul] at ht
      omega
    · exact hz
  have hb : (q - 1) * yn0 ≤ 4294967296 * 4294967295 := Int.mul_le_mul (by omega) (by omega) b0 (by decide)
  refine ⟨h1, ?_, e1, e0, by omega⟩
  rcases ht with ht | ht
  · have p1 : 4294967296 * yn1 ≤ q * yn1 := Int.mul_le_mul_of_nonneg_right ht (by omega)
    have p2 : 4294967296 * yn0 ≤ q * yn0 := Int.mul_le_mul_of_nonneg_right ht b0
    generalize q * yn1 = A at *
    generalize q * yn0 = C at *
    omega
  · generalize q * yn1 = A at *
    generalize q * yn0 = C at *
    omega
def Right (yn1 yn0 n u q : Int) : Prop := 0 ≤ q ∧ (q * yn1) * 4294967296 + q * yn0 ≤ n * 4294967296 + u ∧ n * 4294967296 + u < (q * yn1) * 4294967296 + q * yn0 + yn1 * 4294967296 + yn0
theorem trial_stop {yn1 yn0 n u q r : Int} (t : Trial yn1 yn0 n u q r) (h2 : ¬ 4294967296 * r + u < q * yn0) : Right yn1 yn0 n u q := by
  obtain ⟨q0, q1, r0, r1, e, up⟩ := t
  refine ⟨q0, ?_, up⟩
  generalize q * yn1 = A at *
  generalize q * yn0 = C at *
  omega
theorem trial_next {yn1 yn0 n u q r : Int} (h : Halves yn1 yn0 n u) (t : Trial yn1 yn0 n u q r) (ht : 4294967296 ≤ q ∨ 4294967296 * r + u < q * yn0) (hr : r + yn1 < 4294967296) : Trial yn1 yn0 n u (q - 1) (r + yn1) := by
  obtain ⟨h1, h2, e1, e0, hb⟩ := trial_down h t ht
  obtain ⟨a0, a1, b0, b1, u0, u1, n0, n1⟩ := h
  obtain ⟨q0, q1, r0, r1, e, up⟩ := t
  refine ⟨by omega, by omega, by omega, hr, ?_, ?_⟩
  · rw [e1]
    omega
  · rw [e1, e0]
    generalize q * yn1 = A at *
    generalize q * yn0 = C at *
    omega
theorem trial_last {yn1 yn0 n u q r : Int} (h : Halves yn1 yn0 n u) (t : Trial yn1 yn0 n u q r) (ht : 4294967296 ≤ q ∨ 4294967296 * r + u < q * yn0) (hr : 4294967296 ≤ r + yn1) : Right yn1 yn0 n u (q - 1) := by
  obtain ⟨h1, h2, e1, e0, hb⟩ := trial_down h t ht
  obtain ⟨a0, a1, b0, b1, u0, u1, n0, n1⟩ := h
  obtain ⟨q0, q1, r0, r1, e, up⟩ := t
  unfold Right
  rw [e1, e0]
  generalize q * yn1 = A at *
  generalize q * yn0 = C at *
  omega
theorem test_is {yn1 yn0 n u q r : Int} (h : Halves yn1 yn0 n u) (t : Trial yn1 yn0 n u q r) (hq : ¬ q ≥ 4294967296) :
    decide (IntKind.u64.wrap (q * yn0) > IntKind.u64.wrap (IntKind.u64.wrap (4294967296 * r) + u)) = decide (4294967296 * r + u < q * yn0) := by
  obtain ⟨a0, a1, b0, b1, u0, u1, n0, n1⟩ := h
  obtain ⟨q0, q1, r0, r1, e, up⟩ := t
  have hb : q * yn0 ≤ 4294967295 * 4294967295 := Int.mul_le_mul (by omega) (by omega) b0 (by decide)
  have hz : 0 ≤ q * yn0 := Int.mul_nonneg q0 b0
  rw [u64w_id (q * yn0) hz (by omega), u64w_id (4294967296 * r) (by omega) (by omega), u64w_id _ (by omega) (by omega)]
theorem trial_first {yn1 yn0 n u : Int} (h : Halves yn1 yn0 n u) : Trial yn1 yn0 n u (n / yn1) (n - n / yn1 * yn1) ∧ 0 ≤ n / yn1 * yn1 ∧ n / yn1 * yn1 ≤ n := by
  obtain ⟨a0, a1, b0, b1, u0, u1, n0, n1⟩ := h
  have p0 : 0 ≤ n / yn1 := Int.ediv_nonneg n0 (by omega)
  have p1 : n / yn1 * yn1 ≤ n := Int.ediv_mul_le n (by omega)
  have p2 : n < (n / yn1 + 1) * yn1 := Int.lt_ediv_add_one_mul_self n (by omega)
  have p3 : (n / yn1 + 1) * yn1 = n / yn1 * yn1 + yn1 := by rw [Int.add_mul, Int.one_mul]
  have p4 : 0 ≤ n / yn1 * yn1 := Int.mul_nonneg p0 (by omega)
  have p5 : 0 ≤ n / yn1 * yn0 := Int.mul_nonneg p0 b0
  refine ⟨⟨p0, ?_, by omega, by omega, by omega, ?_⟩, p4, p1⟩
  · rcases (by omega : n / yn1 ≤ 4294967297 ∨ 4294967298 ≤ n / yn1) with hle | hge
    · exact hle
    · exfalso
      have : 4294967298 * yn1 ≤ n / yn1 * yn1 := Int.mul_le_mul_of_nonneg_right hge (by omega)
      omega
  · generalize n / yn1 * yn1 = A at *
    generalize n / yn1 * yn0 = C at *
    omega
theorem rest_is {n u p : Int} (h0 : 0 ≤ n * 4294967296 + u - p) (h1 : n * 4294967296 + u - p < 18446744073709551616) :
    IntKind.u64.wrap (IntKind.u64.wrap (IntKind.u64.wrap (n * 4294967296) + u) - IntKind.u64.wrap p) = n * 4294967296 + u - p := by
  rw [u64w, u64w, u64w, u64w]
  omega
theorem times_y (q yn1 yn0 y : Int) (hy : y = yn1 * 4294967296 + yn0) : q * y = (q * yn1) * 4294967296 + q * yn0 := by
  rw [hy, Int.mul_add, ← Int.mul_assoc]
theorem l1_ok (y yn1 yn0 n u : Int) (s : Nat) (hy : y = yn1 * 4294967296 + yn0) (h : Halves yn1 yn0 n u) (q1 : Int) (hq1 : 0 ≤ q1) (hq2 : q1 < 4294967296) :
    ∀ (d : Nat) (q r : Int), Trial yn1 yn0 n u q r → 4294967296 ≤ r + d * 2147483648 →
      ∃ Q, Right yn1 yn0 n u Q ∧ Ev (fun k => bits_Div64.l1 k y (s : Int) yn1 yn0 u q1 r n q) (q1 * 4294967296 + Q, shr .u64 (n * 4294967296 + u - Q * y) (s : Int)) := by
  have fin : ∀ Q, Right yn1 yn0 n u Q → 0 ≤ n * 4294967296 + u - Q * y ∧ n * 4294967296 + u - Q * y < 18446744073709551616 ∧ Q < 4294967296 := by
    intro Q hQ
    have := digit_lt h hQ.2.1
    have e := times_y Q yn1 yn0 y hy
    obtain ⟨a0, a1, b0, b1, u0, u1, n0, n1⟩ := h
    obtain ⟨c0, c1, c2⟩ := hQ
    rw [e]
    generalize Q * yn1 = A at *
    generalize Q * yn0 = C at *
    omega
  intro d
  induction d with
  | zero =>
    intro q r t hd
    have := t.r1
    omega
  | succ d ih =>
    intro q r t hd
    have ht0 := t.q0
    have ht1 := t.q1
    have hr0 := t.r0
    have hr1 := t.r1
    have ha0 := h.a0
    have ha1 := h.a1
    have body : ∀ c : Bool, (c = true ↔ (4294967296 ≤ q ∨ 4294967296 * r + u < q * yn0)) →
        ∃ Q, Right yn1 yn0 n u Q ∧ Ev (fun k => bits_Div64.j4 k y (s : Int) yn1 yn0 u q1 r n q c) (q1 * 4294967296 + Q, shr .u64 (n * 4294967296 + u - Q * y) (s : Int)) := by
      intro c hc
      cases c with
      | true =>
        have ht := hc.1 rfl
        have hw : IntKind.u64.wrap (r + yn1) = r + yn1 := u64w_id _ (by omega) (by omega)
        have hd1 := (trial_down h t ht).1
        have hw2 : IntKind.u64.wrap (q - 1) = q - 1 := u64w_id _ (by omega) (by omega)
        by_cases hr : 4294967296 ≤ r + yn1
        · have hR := trial_last h t ht hr
          have hf := fin _ hR
          refine ⟨q - 1, hR, Ev_one fun k => ?_⟩
          simp only [bits_Div64.j4]
          rw [if_pos trivial, hw, if_pos (by omega), if_pos (by omega), hw2, rest_is hf.1 hf.2.1, u64w_id (q1 * 4294967296) (by omega) (by omega), u64w_id _ (by omega) (by omega)]
        · obtain ⟨Q, hQ, hE⟩ := ih (q - 1) (r + yn1) (trial_next h t ht (by omega)) (by omega)
          refine ⟨Q, hQ, Ev.step (fun k => ?_) hE⟩
          simp only [bits_Div64.j4]
          rw [if_pos trivial, hw, if_neg (by omega), hw2]
      | false =>
        have ht : ¬ (4294967296 ≤ q ∨ 4294967296 * r + u < q * yn0) := fun hh => Bool.noConfusion (hc.2 hh)
        have hR := trial_stop t (fun hh => ht (.inr hh))
        have hf := fin _ hR
        refine ⟨q, hR, Ev_one fun k => ?_⟩
        simp only [bits_Div64.j4]
        rw [if_neg (by decide), if_pos (by omega), rest_is hf.1 hf.2.1, u64w_id (q1 * 4294967296) (by omega) (by omega), u64w_id _ (by omega) (by omega)]
    by_cases hq : q ≥ 4294967296
    · obtain ⟨Q, hQ, hE⟩ := body true ⟨fun _ => .inl hq, fun _ => rfl⟩
      refine ⟨Q, hQ, Ev.step (fun k => ?_) hE⟩
      simp only [bits_Div64.l1]
      rw [if_pos hq]
    · obtain ⟨Q, hQ, hE⟩ := body (decide (4294967296 * r + u < q * yn0)) (by rw [decide_eq_true_iff]; omega)
      refine ⟨Q, hQ, Ev.step (fun k => ?_) hE⟩
      simp only [bits_Div64.l1]
      rw [if_neg hq, test_is h t hq]
theorem l0_ok (y yn1 yn0 n u v : Int) (s : Nat) (hy : y = yn1 * 4294967296 + yn0) (h : Halves yn1 yn0 n u) (hv0 : 0 ≤ v) (hv1 : v < 4294967296) :
    ∀ (d : Nat) (q r : Int), Trial yn1 yn0 n u q r → 4294967296 ≤ r + d * 2147483648 →
      ∃ Q1 Q0, 0 ≤ Q1 ∧ Q1 < 4294967296 ∧ 0 ≤ Q0 ∧ Q0 < 4294967296 ∧ 0 ≤ (n * 4294967296 + u - Q1 * y) * 4294967296 + v - Q0 * y ∧ (n * 4294967296 + u - Q1 * y) * 4294967296 + v - Q0 * y < y ∧
        Ev (fun k => bits_Div64.l0 k y (s : Int) yn1 yn0 n u v q r) (Q1 * 4294967296 + Q0, shr .u64 ((n * 4294967296 + u - Q1 * y) * 4294967296 + v - Q0 * y) (s : Int)) := by
  have fin : ∀ Q, Right yn1 yn0 n u Q → ∃ Q0, 0 ≤ Q ∧ Q < 4294967296 ∧ 0 ≤ Q0 ∧ Q0 < 4294967296 ∧ 0 ≤ (n * 4294967296 + u - Q * y) * 4294967296 + v - Q0 * y ∧ (n * 4294967296 + u - Q * y) * 4294967296 + v - Q0 * y < y ∧
        Ev (fun k => bits_Div64.j2 k y (s : Int) yn1 yn0 n u v Q) (Q * 4294967296 + Q0, shr .u64 ((n * 4294967296 + u - Q * y) * 4294967296 + v - Q0 * y) (s : Int)) := by
    intro Q hQ
    have hlt := digit_lt h hQ.2.1
    have e := times_y Q yn1 yn0 y hy
    obtain ⟨c0, c1, c2⟩ := hQ
    have ha0 := h.a0
    have ha1 := h.a1
    have hr0 : 0 ≤ n * 4294967296 + u - Q * y := by rw [e]; omega
    have hr1 : n * 4294967296 + u - Q * y < y := by
      rw [e, hy]
      generalize Q * yn1 = A at *
      generalize Q * yn0 = C at *
      omega
    have hw := rest_is (n := n) (u := u) (p := Q * y) hr0 (by have := h.b1; omega)
    generalize n * 4294967296 + u - Q * y = m at *
    have hH : Halves yn1 yn0 m v := ⟨h.a0, h.a1, h.b0, h.b1, hv0, hv1, hr0, by omega⟩
    obtain ⟨tr, tr0, tr1⟩ := trial_first hH
    obtain ⟨Q0, hQ0, hE⟩ := l1_ok y yn1 yn0 m v s hy hH Q c0 hlt 2 _ _ tr (by have := tr.r0; omega)
    have hlt0 := digit_lt hH hQ0.2.1
    have e0 := times_y Q0 yn1 yn0 y hy
    obtain ⟨g0, g1, g2⟩ := hQ0
    refine ⟨Q0, c0, hlt, g0, hlt0, by rw [e0]; omega, ?_, Ev.step (fun k => ?_) hE⟩
    · rw [e0, hy]
      generalize Q0 * yn1 = A at *
      generalize Q0 * yn0 = C at *
      omega
    · have hd : Int.tdiv m yn1 = m / yn1 := Int.tdiv_eq_ediv_of_nonneg hr0
      have hdr : 0 ≤ m / yn1 := tr.q0
      have hdr1 : m / yn1 ≤ 4294967297 := tr.q1
      simp only [bits_Div64.j2]
      rw [if_neg (by omega), hw, hd, u64w_id (m / yn1) hdr (by omega), u64w_id (m / yn1 * yn1) tr0 (by have := h.b1; omega), u64w_id (m - m / yn1 * yn1) (by omega) (by have := h.b1; omega)]
  intro d
  induction d with
  | zero =>
    intro q r t hd
    have := t.r1
    omega
  | succ d ih =>
    intro q r t hd
    have ht0 := t.q0
    have ht1 := t.q1
    have hr0 := t.r0
    have hr1 := t.r1
    have ha0 := h.a0
    have ha1 := h.a1
    have body : ∀ c : Bool, (c = true ↔ (4294967296 ≤ q ∨ 4294967296 * r + u < q * yn0)) →
        ∃ Q1 Q0, 0 ≤ Q1 ∧ Q1 < 4294967296 ∧ 0 ≤ Q0 ∧ Q0 < 4294967296 ∧ 0 ≤ (n * 4294967296 + u - Q1 * y) * 4294967296 + v - Q0 * y ∧ (n * 4294967296 + u - Q1 * y) * 4294967296 + v - Q0 * y < y ∧
        Ev (fun k => bits_Div64.j1 k y (s : Int) yn1 yn0 n u v q r c) (Q1 * 4294967296 + Q0, shr .u64 ((n * 4294967296 + u - Q1 * y) * 4294967296 + v - Q0 * y) (s : Int)) := by
      intro c hc
      cases c with
      | true =>
        have ht := hc.1 rfl
        have hw : IntKind.u64.wrap (r + yn1) = r + yn1 := u64w_id _ (by omega) (by omega)
        have hd1 := (trial_down h t ht).1
        have hw2 : IntKind.u64.wrap (q - 1) = q - 1 := u64w_id _ (by omega) (by omega)
        by_cases hr : 4294967296 ≤ r + yn1
        · obtain ⟨Q0, z0, z1, z2, z3, z4, z5, hE⟩ := fin _ (trial_last h t ht hr)
          refine ⟨q - 1, Q0, z0, z1, z2, z3, z4, z5, Ev.step (fun k => ?_) hE⟩
          simp only [bits_Div64.j1]
          rw [if_pos trivial, hw, if_pos (by omega), hw2]
        · obtain ⟨Q1, Q0, z0, z1, z2, z3, z4, z5, hE⟩ := ih (q - 1) (r + yn1) (trial_next h t ht (by omega)) (by omega)
          refine ⟨Q1, Q0, z0, z1, z2, z3, z4, z5, Ev.step (fun k => ?_) hE⟩
          simp only [bits_Div64.j1]
          rw [if_pos trivial, hw, if_neg (by omega), hw2]
      | false =>
        have ht : ¬ (4294967296 ≤ q ∨ 4294967296 * r + u < q * yn0) := fun hh => Bool.noConfusion (hc.2 hh)
        obtain ⟨Q0, z0, z1, z2, z3, z4, z5, hE⟩ := fin _ (trial_stop t (fun hh => ht (.inr hh)))
        refine ⟨q, Q0, z0, z1, z2, z3, z4, z5, Ev.step (fun k => ?_) hE⟩
        simp only [bits_Div64.j1]
        rw [if_neg (by decide)]
    by_cases hq : q ≥ 4294967296
    · obtain ⟨Q1, Q0, z0, z1, z2, z3, z4, z5, hE⟩ := body true ⟨fun _ => .inl hq, fun _ => rfl⟩
      refine ⟨Q1, Q0, z0, z1, z2, z3, z4, z5, Ev.step (fun k => ?_) hE⟩
      simp only [bits_Div64.l0]
      rw [if_pos hq]
    · obtain ⟨Q1, Q0, z0, z1, z2, z3, z4, z5, hE⟩ := body (decide (4294967296 * r + u < q * yn0)) (by rw [decide_eq_true_iff]; omega)
      refine ⟨Q1, Q0, z0, z1, z2, z3, z4, z5, Ev.step (fun k => ?_) hE⟩
      simp only [bits_Div64.l0]
      rw [if_neg hq, test_is h t hq]
theorem parts (hi lo y : Int) (s : Nat) (hs : s ≤ 63) (h0 : 0 ≤ hi) (h1 : hi < y) (l0 : 0 ≤ lo) (l1 : lo < 18446744073709551616) (y1 : y * 2 ^ s < 18446744073709551616) :
    ∃ n m : Int, Go.bits .or .u64 (shl .u64 hi (s : Int)) (shr .u64 lo (64 - (s : Int))) = n ∧ shl .u64 lo (s : Int) = m ∧ 0 ≤ n ∧ n < y * 2 ^ s ∧ 0 ≤ m ∧ m < 18446744073709551616 ∧ (hi * 18446744073709551616 + lo) * 2 ^ s = n * 18446744073709551616 + m := by
  have hp : (0 : Int) < 2 ^ s := Int.pow_pos (by decide)
  have hp2 : (0 : Int) < 2 ^ (64 - s) := Int.pow_pos (by decide)
  have hpp : (2 : Int) ^ (64 - s) * 2 ^ s = 18446744073709551616 := by rw [← Int.pow_add, show 64 - s + s = 64 by omega]; decide
  have e1 : shl .u64 hi (s : Int) = hi * 2 ^ s := by
    unfold shl
    rw [Int.toNat_natCast, Nat.min_eq_left (by show s ≤ 64; omega)]
    have a : 0 ≤ hi * 2 ^ s := Int.mul_nonneg h0 (Int.le_of_lt hp)
    have b : hi * 2 ^ s ≤ y * 2 ^ s := Int.mul_le_mul_of_nonneg_right (by omega) (Int.le_of_lt hp)
    exact u64w_id _ a (by omega)
  have e2 : shr .u64 lo (64 - (s : Int)) = lo / 2 ^ (64 - s) := by
    unfold shr
    rw [show (64 - (s : Int)).toNat = 64 - s by omega, Nat.min_eq_left (by show 64 - s ≤ 64; omega)]
  have e3 : shl .u64 lo (s : Int) = (lo * 2 ^ s) % 18446744073709551616 := by
    unfold shl
    rw [Int.toNat_natCast, Nat.min_eq_left (by show s ≤ 64; omega), u64w]
  have d0 : 0 ≤ lo / 2 ^ (64 - s) := Int.ediv_nonneg l0 (Int.le_of_lt hp2)
  have d1 : lo / 2 ^ (64 - s) < 2 ^ s := by
    refine Int.ediv_lt_of_lt_mul hp2 ?_
    rw [Int.mul_comm, hpp]
    exact l1
  have hx : 0 ≤ hi * 2 ^ s := Int.mul_nonneg h0 (Int.le_of_lt hp)
  have hx1 : hi * 2 ^ s + 2 ^ s ≤ y * 2 ^ s := by
    have : (hi + 1) * 2 ^ s ≤ y * 2 ^ s := Int.mul_le_mul_of_nonneg_right (by omega) (Int.le_of_lt hp)
    rw [Int.add_mul, Int.one_mul] at this
    exact this
  have e4 : Go.bits .or .u64 (hi * 2 ^ s) (lo / 2 ^ (64 - s)) = hi * 2 ^ s + lo / 2 ^ (64 - s) :=
    bits_join .u64 64 (by decide) wraps_u64 s _ _ hx (Int.mul_emod_left _ _) (by simpa using (by omega : hi * 2 ^ s < 18446744073709551616)) d0 d1 (by simpa using (by omega : lo / 2 ^ (64 - s) < 18446744073709551616))
  have e5 : lo * 2 ^ s = (lo / 2 ^ (64 - s)) * 18446744073709551616 + (lo * 2 ^ s) % 18446744073709551616 := by
    have a : lo = 2 ^ (64 - s) * (lo / 2 ^ (64 - s)) + lo % 2 ^ (64 - s) := (Int.mul_ediv_add_emod lo (2 ^ (64 - s))).symm
    have b : lo % 2 ^ (64 - s) < 2 ^ (64 - s) := Int.emod_lt_of_pos _ hp2
    have c : 0 ≤ lo % 2 ^ (64 - s) := Int.emod_nonneg _ (Int.ne_of_gt hp2)
    generalize lo / 2 ^ (64 - s) = t at *
    generalize lo % 2 ^ (64 - s) = g at *
    have e : lo * 2 ^ s = t * 18446744073709551616 + g * 2 ^ s := by rw [a, Int.add_mul, Int.mul_comm (2 ^ (64 - s)) t, Int.mul_assoc, hpp]
    have f0 : 0 ≤ g * 2 ^ s := Int.mul_nonneg c (Int.le_of_lt hp)
    have f1 : g * 2 ^ s < 18446744073709551616 := by rw [← hpp]; exact Int.mul_lt_mul_of_pos_right b hp
    generalize g * 2 ^ s = x at *
    generalize lo * 2 ^ s = z at *
    omega
  refine ⟨hi * 2 ^ s + lo / 2 ^ (64 - s), (lo * 2 ^ s) % 18446744073709551616, by rw [e1, e2, e4], e3, by omega, by omega, by omega, by omega, ?_⟩
  rw [Int.add_mul, Int.mul_right_comm]
  generalize hi * 2 ^ s = a at *
  generalize lo / 2 ^ (64 - s) = b at *
  generalize lo * 2 ^ s = c at *
  omega
theorem div64 (hi lo y : Int) (h0 : 0 ≤ hi) (h1 : hi < y) (l0 : 0 ≤ lo) (l1 : lo < 18446744073709551616) (y1 : y < 18446744073709551616) :
    Ev (fun k => bits_Div64.f k hi lo y) ((hi * 18446744073709551616 + lo) / y, (hi * 18446744073709551616 + lo) % y) := by
  unfold bits_Div64.f
  by_cases hz : hi = 0
  · refine Ev_all_k fun k => ?_
    rw [if_neg (by omega), if_neg (by omega), if_pos hz, hz, Int.zero_mul, Int.zero_add, Int.tdiv_eq_ediv_of_nonneg l0, Int.tmod_eq_emod_of_nonneg l0]
    have a : 0 ≤ lo / y := Int.ediv_nonneg l0 (by omega)
    have b : lo / y ≤ lo := Int.ediv_le_self _ l0
    rw [u64w_id _ a (by omega)]
  · obtain ⟨s, hs, ya, yb, hE⟩ := zeros64 y (by omega) y1
    obtain ⟨n, m, en, em, n0, n1, m0, m1, eU⟩ := parts hi lo y s hs h0 h1 l0 l1 yb
    have hp : (0 : Int) < 2 ^ s := Int.pow_pos (by decide)
    have ey : shl .u64 y (s : Int) = y * 2 ^ s := by
      unfold shl
      rw [Int.toNat_natCast, Nat.min_eq_left (by show s ≤ 64; omega)]
      exact u64w_id _ (by omega) yb
    have ws : IntKind.u64.wrap (s : Int) = s := u64w_id _ (by omega) (by omega)
    have ws2 : IntKind.u64.wrap (64 - (s : Int)) = 64 - s := u64w_id _ (by omega) (by omega)
    generalize hY : y * 2 ^ s = Y at *
    have hy : Y = Y / 4294967296 * 4294967296 + Y % 4294967296 := by omega
    have hH : Halves (Y / 4294967296) (Y % 4294967296) n (m / 4294967296) := ⟨by omega, by omega, by omega, by omega, by omega, by omega, n0, by omega⟩
    obtain ⟨tr, tr0, tr1⟩ := trial_first hH
    obtain ⟨Q1, Q0, a0, a1, b0, b1, r0, r1, hL⟩ := l0_ok Y _ _ n (m / 4294967296) (m % 4294967296) s hy hH (by omega) (by omega) 2 _ _ tr (by have := tr.r0; omega)
    have hd : Int.tdiv n (Y / 4294967296) = n / (Y / 4294967296) := Int.tdiv_eq_ediv_of_nonneg n0
    have hdr : 0 ≤ n / (Y / 4294967296) := tr.q0
    have hdr1 : n / (Y / 4294967296) ≤ 4294967297 := tr.q1
    have key : ∀ k, bits_Div64.f (k + 1) hi lo y = bits_Div64.l0 (k + 1) Y (s : Int) (Y / 4294967296) (Y % 4294967296) n (m / 4294967296) (m % 4294967296) (n / (Y / 4294967296)) (n - n / (Y / 4294967296) * (Y / 4294967296)) := by
      intro k
      unfold bits_Div64.f
      rw [if_neg (by omega), if_neg (by omega), if_neg hz, hE, Option.bind_some, ws, ws2, if_pos (by omega), if_pos (by omega), ey, if_neg (by omega), en, em, and32 Y (by omega) yb, and32 m m0 m1, hd, u64w_id (n / (Y / 4294967296)) hdr (by omega),
        u64w_id (n / (Y / 4294967296) * (Y / 4294967296)) tr0 (by omega), u64w_id (n - n / (Y / 4294967296) * (Y / 4294967296)) (by omega) (by omega)]
    have fin : (hi * 18446744073709551616 + lo) / y = Q1 * 4294967296 + Q0 ∧ (hi * 18446744073709551616 + lo) % y = shr .u64 ((n * 4294967296 + m / 4294967296 - Q1 * Y) * 4294967296 + m % 4294967296 - Q0 * Y) (s : Int) := by
      have e : (hi * 18446744073709551616 + lo) * 2 ^ s = (Q1 * 4294967296 + Q0) * Y + ((n * 4294967296 + m / 4294967296 - Q1 * Y) * 4294967296 + m % 4294967296 - Q0 * Y) := by
        rw [eU, Int.add_mul, Int.mul_right_comm]
        generalize Q1 * Y = a at *
        generalize Q0 * Y = b at *
        omega
      generalize (n * 4294967296 + m / 4294967296 - Q1 * Y) * 4294967296 + m % 4294967296 - Q0 * Y = R at *
      generalize Q1 * 4294967296 + Q0 = Q at *
      generalize hi * 18446744073709551616 + lo = N at *
      have e2 : R = (N - Q * y) * 2 ^ s := by
        rw [Int.sub_mul, e, ← hY, Int.mul_assoc]
        omega
      have e3 : shr .u64 R (s : Int) = N - Q * y := by
        unfold shr
        rw [Int.toNat_natCast, Nat.min_eq_left (by show s ≤ 64; omega), e2, Int.mul_ediv_cancel _ (Int.ne_of_gt hp)]
      have f0 : 0 ≤ N - Q * y := by
        rcases (by omega : 0 ≤ N - Q * y ∨ N - Q * y < 0) with g | g
        · exact g
        · have := Int.mul_neg_of_neg_of_pos g hp
          omega
      have f1 : N - Q * y < y := by
        rcases (by omega : N - Q * y < y ∨ y ≤ N - Q * y) with g | g
        · exact g
        · have := Int.mul_le_mul_of_nonneg_right g (Int.le_of_lt hp)
          omega
      rw [e3]
      have hN : N = (N - Q * y) + y * Q := by rw [Int.mul_comm y Q]; omega
      generalize N - Q * y = z at *
      subst hN
      rw [Int.add_mul_ediv_left _ _ (by omega), Int.ediv_eq_zero_of_lt f0 f1, Int.zero_add, Int.add_mul_emod_self_left, Int.emod_eq_of_lt f0 f1]
      exact ⟨rfl, rfl⟩
    rw [fin.1, fin.2]
    obtain ⟨K, hK⟩ := hL
    refine ⟨K + 1, fun k hk => ?_⟩
    obtain ⟨j, rfl⟩ : ∃ j, k = j + 1 := ⟨k - 1, by omega⟩
    have := key j
    unfold bits_Div64.f at this
    exact this.trans (hK (j + 1) (by omega))
def mdOk (a b c : Int) : Prop := (0 ≤ a ∧ a ≤ 1000000000000000) ∧ (0 ≤ b ∧ b ≤ 1000000000000000) ∧ (1 ≤ c ∧ c ≤ 1000000000000000) ∧ a * b / c ≤ 1000000000000000
instance (a b c : Int) : Decidable (mdOk a b c) := by unfold mdOk; exact inferInstance
def mdR (a b c : Int) : Int × Int × Bool := if mdOk a b c then (a * b / c, a * b % c, true) else (0, 0, false)
theorem md_no {a b c : Int} (h : ¬ mdOk a b c) : mdR a b c = (0, 0, false) := if_neg h
theorem md_yes {a b c : Int} (h : mdOk a b c) : mdR a b c = (a * b / c, a * b % c, true) := if_pos h
theorem gates {ρ : Type} {A B C : Prop} [Decidable A] [Decidable B] [Decidable C] (f : Nat → Bool → Option ρ) (r : ρ) (hb : ¬ (A ∧ B ∧ C) → Ev (fun k => f k true) r) (hg : A → B → C → Ev (fun k => f k false) r) :
    Ev (fun k => if decide A = true then (if decide B = true then f k (!decide C) else f k true) else f k true) r := by
  by_cases ha : A
  · by_cases hb2 : B
    · by_cases hc : C
      · exact Ev.congr (fun k => by rw [if_pos (decide_eq_true ha), if_pos (decide_eq_true hb2), decide_eq_true hc]; rfl) (hg ha hb2 hc)
      · exact Ev.congr (fun k => by rw [if_pos (decide_eq_true ha), if_pos (decide_eq_true hb2), decide_eq_false hc]; rfl) (hb fun h => hc h.2.2)
    · exact Ev.congr (fun k => by rw [if_pos (decide_eq_true ha), if_neg (by rw [decide_eq_false hb2]; decide)]) (hb fun h => hb2 h.2.1)
  · exact Ev.congr (fun k => by rw [if_neg (by rw [decide_eq_false ha]; decide)]) (hb fun h => ha h.1)
theorem mulDiv_i (a b c : Int) : Ev (fun k => impl_MulDiv.f k a b c) (mdR a b c) := by
  unfold impl_MulDiv.f
  simp only [in_i, Option.bind_some]
  have bad : ∀ h : ¬ mdOk a b c, Ev (fun k => impl_MulDiv.j0 k a b c true) (mdR a b c) := fun h => by
    rw [md_no h]
    exact Ev_one fun k => by simp only [impl_MulDiv.j0]; rw [if_pos trivial]
  refine gates (fun k z => impl_MulDiv.j0 k a b c z) _ (fun h => bad fun g => h ⟨g.1, g.2.1, g.2.2.1⟩) fun ha hb hc => ?_
  · · ·
        obtain ⟨a0, a1⟩ := ha
        obtain ⟨b0, b1⟩ := hb
        obtain ⟨c0, c1⟩ := hc
        have hp0 : 0 ≤ a * b := Int.mul_nonneg a0 b0
        have hp1 : a * b ≤ 1000000000000000 * 1000000000000000 := Int.mul_le_mul a1 b1 b0 (by decide)
        have hm : bits_Mul64.f a b = some (a * b / 18446744073709551616, a * b % 18446744073709551616) := by
          unfold bits_Mul64.f
          rw [mul64 a b a0 (by omega) b0 (by omega), u64w]
        have e : ∀ k, impl_MulDiv.j0 (k + 1) a b c false = if a * b / 18446744073709551616 ≥ c then some (0, 0, false) else (bits_Div64.f k (a * b / 18446744073709551616) (a * b % 18446744073709551616) c).bind fun z => (if z.1 > 1000000000000000 then (some (0, 0, false)) else (some (wrap64 z.1, wrap64 z.2, true))) := by
          intro k
          simp only [impl_MulDiv.j0]
          rw [if_neg (by decide), u64w_id a a0 (by omega), u64w_id b b0 (by omega), u64w_id c (by omega) (by omega), hm, Option.bind_some]
        have hq0 : 0 ≤ a * b / c := Int.ediv_nonneg hp0 (by omega)
        have hr0 : 0 ≤ a * b % c := Int.emod_nonneg _ (by omega)
        have hr1 : a * b % c < c := Int.emod_lt_of_pos _ (by omega)
        refine Ev.step e ?_
        by_cases hh : a * b / 18446744073709551616 ≥ c
        · have hno : ¬ mdOk a b c := fun h => by
            have h4 := h.2.2.2
            have h5 : 18446744073709551616 ≤ a * b / c := by
              rw [Int.le_ediv_iff_mul_le (by omega)]
              omega
            omega
          rw [md_no hno]
          exact Ev_all_k fun k => if_pos hh
        · refine Ev.congr (fun k => if_neg hh) ?_
          have hd := div64 (a * b / 18446744073709551616) (a * b % 18446744073709551616) c (by omega) (by omega) (by omega) (by omega) (by omega)
          rw [show a * b / 18446744073709551616 * 18446744073709551616 + a * b % 18446744073709551616 = a * b by omega] at hd
          refine Ev_bind hd (Ev_all_k fun k => ?_)
          by_cases hq : a * b / c ≤ 1000000000000000
          · rw [md_yes ⟨⟨a0, a1⟩, ⟨b0, b1⟩, ⟨c0, c1⟩, hq⟩, if_neg (by show ¬ a * b / c > _; omega)]
            show some (wrap64 (a * b / c), wrap64 (a * b % c), true) = _
            rw [w64_id _ (by omega) (by omega), w64_id _ (by omega) (by omega)]
          · rw [md_no (fun h => hq h.2.2.2), if_pos (by show a * b / c > _; omega)]
theorem some_s (x lo : Int) : spec_l1Some.f x lo = some (decide (lo ≤ x ∧ x ≤ 1000000000000000)) := by
  unfold spec_l1Some.f
  rw [in_s]
  rfl
theorem bit_is (a : Int) (i : Nat) (h0 : 0 ≤ a) (h1 : a ≤ 1000000000000000) (hi : i ≤ 63) : Go.bits .and .i64 (shr .i64 a (i : Int)) 1 = a / 2 ^ i % 2 := by
  have e : shr .i64 a (i : Int) = a / 2 ^ i := by
    unfold shr
    rw [Int.toNat_natCast, Nat.min_eq_left (by show i ≤ 64; omega)]
  rw [e]
  have hp : (0 : Int) < 2 ^ i := Int.pow_pos (by decide)
  have d0 : 0 ≤ a / 2 ^ i := Int.ediv_nonneg h0 (Int.le_of_lt hp)
  have d1 : a / 2 ^ i ≤ a := Int.ediv_le_self _ h0
  exact bits_mask .i64 63 (by decide) (fun n a b => by rw [IntKind.wrap_i64]; have : (2 : Int) ^ 63 = 9223372036854775808 := by decide
                                                       omega) 1 (by decide) _ d0 (by have : (2 : Int) ^ 63 = 9223372036854775808 := by decide
                                                                                     omega)
theorem sl0 (a b c : Int) (a0 : 0 ≤ a) (a1 : a ≤ 1000000000000000) (b0 : 0 ≤ b) (b1 : b ≤ 1000000000000000) (c0 : 1 ≤ c) (c1 : c ≤ 1000000000000000) :
    ∀ (m : Nat) (q r : Int), m ≤ 51 → 0 ≤ r → r < c → 0 ≤ q → q ≤ 1000000000000000 → q * c + r = a / 2 ^ m * b →
      Ev (fun k => spec_MulDiv.l0 k a b c q r ((m : Int) - 1)) (if a * b / c ≤ 1000000000000000 then (a * b / c, a * b % c, true) else (0, 0, false)) := by
  intro m
  induction m with
  | zero =>
    intro q r _ r0 r1 q0 q1 e
    rw [show a / 2 ^ 0 = a by rw [Int.pow_zero, Int.ediv_one]] at e
    have hN : a * b = r + c * q := by rw [← e, Int.mul_comm c q]; omega
    have hd : a * b / c = q := by rw [hN, Int.add_mul_ediv_left _ _ (by omega), Int.ediv_eq_zero_of_lt r0 r1, Int.zero_add]
    have hm : a * b % c = r := by rw [hN, Int.add_mul_emod_self_left, Int.emod_eq_of_lt r0 r1]
    rw [hd, hm, if_pos q1]
    exact Ev_one fun k => by simp only [spec_MulDiv.l0]; rw [if_neg (by omega)]
  | succ m ih =>
    intro q r hm r0 r1 q0 q1 e
    have hp : (0 : Int) < 2 ^ m := Int.pow_pos (by decide)
    have hA : a / 2 ^ (m + 1) = a / 2 ^ m / 2 := by rw [Int.pow_succ, Int.ediv_ediv_of_nonneg (Int.le_of_lt hp)]
    have d0 : 0 ≤ a / 2 ^ m := Int.ediv_nonneg a0 (Int.le_of_lt hp)
    have d1 : a / 2 ^ m ≤ a := Int.ediv_le_self _ a0
    rw [hA] at e
    have hbit := bit_is a m a0 a1 (by omega)
    -- too great a quotient stays too great
    have big : ∀ q' r' : Int, q' * c + r' = a / 2 ^ m * b → 0 ≤ r' → 1000000000000000 < q' → ¬ a * b / c ≤ 1000000000000000 := by
      intro q' r' e' r0' hq' hle
      have h1 : a / 2 ^ m * b ≤ a * b := Int.mul_le_mul_of_nonneg_right d1 b0
      have h2 : q' ≤ a * b / c := by
        rw [Int.le_ediv_iff_mul_le (by omega)]
        omega
      omega
    -- the doubled pair
    obtain ⟨q2, r2, hw, z0, z1, y0, y1, e2⟩ : ∃ q2 r2 : Int, (∀ k, spec_MulDiv.l0 (k + 1) a b c q r ((m + 1 : Nat) - 1 : Int) = spec_MulDiv.j2 k a b c q2 r2 (m : Int)) ∧ 0 ≤ r2 ∧ r2 < c ∧ 0 ≤ q2 ∧ q2 ≤ 2000000000000001 ∧ q2 * c + r2 = 2 * (a / 2 ^ m / 2 * b) := by
      have w1 : wrap64 (2 * r) = 2 * r := w64_id _ (by omega) (by omega)
      have w2 : wrap64 (2 * q) = 2 * q := w64_id _ (by omega) (by omega)
      have hi : (((m + 1 : Nat) : Int) - 1) = (m : Int) := by omega
      by_cases h : 2 * r ≥ c
      · refine ⟨2 * q + 1, 2 * r - c, fun k => ?_, by omega, by omega, by omega, by omega, ?_⟩
        · rw [hi]
          simp only [spec_MulDiv.l0]
          rw [if_pos (by omega), w1, if_pos h, w2, w64_id (2 * q + 1) (by omega) (by omega), w64_id (2 * r - c) (by omega) (by omega)]
        · rw [Int.add_mul, Int.one_mul, Int.mul_assoc, ← e]
          omega
      · refine ⟨2 * q, 2 * r, fun k => ?_, by omega, by omega, by omega, by omega, ?_⟩
        · rw [hi]
          simp only [spec_MulDiv.l0]
          rw [if_pos (by omega), w1, if_neg h, w2]
        · rw [Int.mul_assoc, ← e]
          omega
    refine Ev.step hw ?_
    have hodd : a / 2 ^ m * b = 2 * (a / 2 ^ m / 2 * b) + a / 2 ^ m % 2 * b := by
      have : a / 2 ^ m = 2 * (a / 2 ^ m / 2) + a / 2 ^ m % 2 := by omega
      generalize a / 2 ^ m = x at *
      conv => lhs; rw [this, Int.add_mul, Int.mul_assoc]
    have go : ∀ q3 r3 : Int, 0 ≤ r3 → r3 < c → 0 ≤ q3 → q3 * c + r3 = a / 2 ^ m * b → (f : Nat → Option (Int × Int × Bool)) → (∀ k, f k = if q3 > 1000000000000000 then some (0, 0, false) else spec_MulDiv.l0 k a b c q3 r3 ((m : Int) - 1)) → Ev f (if a * b / c ≤ 1000000000000000 then (a * b / c, a * b % c, true) else (0, 0, false)) := by
      intro q3 r3 x0 x1 x2 e3 f hf
      by_cases hq : q3 > 1000000000000000
      · rw [if_neg (big q3 r3 e3 x0 (by omega))]
        exact Ev_all_k fun k => by rw [hf, if_pos hq]
      · exact Ev.congr (fun k => by rw [hf, if_neg hq]) (ih q3 r3 (by omega) x0 x1 x2 (by omega) e3)
    have wm : wrap64 ((m : Int) - 1) = (m : Int) - 1 := w64_id _ (by omega) (by omega)
    by_cases hb : a / 2 ^ m % 2 = 1
    · have t0 : 0 ≤ b / c := Int.ediv_nonneg b0 (by omega)
      have t1 : b / c ≤ b := Int.ediv_le_self _ b0
      have t2 : 0 ≤ b % c := Int.emod_nonneg _ (by omega)
      have t3 : b % c < c := Int.emod_lt_of_pos _ (by omega)
      have t4 : b / c * c + b % c = b := by have := Int.mul_ediv_add_emod b c; rw [Int.mul_comm]; exact this
      have td : Int.tdiv b c = b / c := Int.tdiv_eq_ediv_of_nonneg b0
      have tm : Int.tmod b c = b % c := Int.tmod_eq_emod_of_nonneg b0
      rw [hb, Int.one_mul] at hodd
      have w1 : wrap64 (r2 + b % c) = r2 + b % c := w64_id _ (by omega) (by omega)
      have w2 : wrap64 (b / c) = b / c := w64_id _ (by omega) (by omega)
      have w3 : wrap64 (q2 + b / c) = q2 + b / c := w64_id _ (by omega) (by omega)
      have w4 : wrap64 (q2 + b / c + 1) = q2 + b / c + 1 := w64_id _ (by omega) (by omega)
      by_cases h : r2 + b % c ≥ c
      · have w5 : wrap64 (r2 + b % c - c) = r2 + b % c - c := w64_id _ (by omega) (by omega)
        refine Ev.step (fun k => rfl) (go (q2 + b / c + 1) (r2 + b % c - c) (by omega) (by omega) (by omega) ?_ _ fun k => ?_)
        · rw [Int.add_mul, Int.add_mul, Int.one_mul, hodd, ← e2]
          omega
        · simp only [spec_MulDiv.j2]
          rw [if_pos (by omega), hbit, if_pos hb, if_neg (by omega), tm, td, w1, if_pos h, w2, w3, w4, w5, wm]
      · refine Ev.step (fun k => rfl) (go (q2 + b / c) (r2 + b % c) (by omega) (by omega) (by omega) ?_ _ fun k => ?_)
        · rw [Int.add_mul, hodd, ← e2]
          omega
        · simp only [spec_MulDiv.j2]
          rw [if_pos (by omega), hbit, if_pos hb, if_neg (by omega), tm, td, w1, if_neg h, w2, w3, wm]
    · have hb0 : a / 2 ^ m % 2 = 0 := by omega
      rw [hb0, Int.zero_mul, Int.add_zero] at hodd
      refine Ev.step (fun k => rfl) (go q2 r2 z0 z1 y0 (by rw [e2, hodd]) _ fun k => ?_)
      simp only [spec_MulDiv.j2]
      rw [if_pos (by omega), hbit, if_neg hb, wm]
theorem mulDiv_s (a b c : Int) : Ev (fun k => spec_MulDiv.f k a b c) (mdR a b c) := by
  unfold spec_MulDiv.f
  simp only [some_s, Option.bind_some]
  have bad : ∀ h : ¬ mdOk a b c, Ev (fun k => spec_MulDiv.j0 k a b c true) (mdR a b c) := fun h => by
    rw [md_no h]
    exact Ev_one fun k => by simp only [spec_MulDiv.j0]; rw [if_pos trivial]
  refine gates (fun k z => spec_MulDiv.j0 k a b c z) _ (fun h => bad fun g => h ⟨g.1, g.2.1, g.2.2.1⟩) fun ha hb hc => ?_
  · · ·
        refine Ev.step (f := fun k => spec_MulDiv.l0 k a b c 0 0 50) (fun k => by simp only [spec_MulDiv.j0]; rw [if_neg (by decide)]) ?_
        have h := sl0 a b c ha.1 ha.2 hb.1 hb.2 hc.1 hc.2 51 0 0 (Nat.le_refl _) (by omega) (by omega) (by omega) (by omega) (by
          rw [show a / 2 ^ 51 = 0 from Int.ediv_eq_zero_of_lt ha.1 (by have : (2 : Int) ^ 51 = 2251799813685248 := by decide
                                                                       omega)]
          simp)
        have e : mdR a b c = if a * b / c ≤ 1000000000000000 then (a * b / c, a * b % c, true) else (0, 0, false) := by
          by_cases hq : a * b / c ≤ 1000000000000000
          · rw [md_yes ⟨ha, hb, hc, hq⟩, if_pos hq]
          · rw [md_no (fun h => hq h.2.2.2), if_neg hq]
        rw [e]
        exact h
end Go.Proofs.Ytomanpmffjkkgaa.A2
namespace Go.Proofs.Ytomanpmffjkkgaa.E6
open Go Go.RowKit Go.Proofs.Ytomanpmffjkkgaa.P Go.Proofs.YtomanpmffjkkgaaW.PrintWords Go.Proofs.YtomanpmffjkkgaaW.PrintLast Go.Proofs.Ytomanpmffjkkgaa.EV Go.Proofs.Ytomanpmffjkkgaa.I1 Go.Proofs.Ytomanpmffjkkgaa.N1 Go.Proofs.Ytomanpmffjkkgaa.E1 Go.Proofs.Ytomanpmffjkkgaa.E2 Go.Proofs.Ytomanpmffjkkgaa.E3 Go.Proofs.Ytomanpmffjkkgaa.E4 Go.Proofs.Ytomanpmffjkkgaa.E5
def tot : List SL → Int
  | [] => 0
  | x :: xs => x.f3 + tot xs
def all4 : List SL → Int
  | [] => 0
  | x :: xs => x.f4 + all4 xs
end Go.Proofs.Ytomanpmffjkkgaa.E6
namespace Go.Proofs.Ytomanpmffjkkgaa.E7
open Go Go.RowKit Go.Proofs.Ytomanpmffjkkgaa.P Go.Proofs.YtomanpmffjkkgaaW.PrintWords Go.Proofs.YtomanpmffjkkgaaW.PrintLast Go.Proofs.Ytomanpmffjkkgaa.EV Go.Proofs.Ytomanpmffjkkgaa.I1 Go.Proofs.Ytomanpmffjkkgaa.N1 Go.Proofs.Ytomanpmffjkkgaa.E1 Go.Proofs.Ytomanpmffjkkgaa.E2 Go.Proofs.Ytomanpmffjkkgaa.E3 Go.Proofs.Ytomanpmffjkkgaa.E4 Go.Proofs.Ytomanpmffjkkgaa.E5 Go.Proofs.Ytomanpmffjkkgaa.E6
theorem sums_t : ∀ (m : List SL) (q c : Int), (∀ x ∈ m, E1.Form x) → 0 ≤ q → 0 ≤ c → q + m.length * 1000000000000000 ≤ 9000000000000000000 → c + m.length * 1000000000000000 ≤ 9000000000000000000 →
    impl_LotsOk.sum3 m q = q + tot m ∧ impl_LotsOk.sum4 m c = c + all4 m
  | [], q, c, _, _, _, _, _ => by simp [impl_LotsOk.sum3, impl_LotsOk.sum4, tot, all4]
  | x :: xs, q, c, hf, h0, h1, h2, h3 => by
    have hx := hf x (List.mem_cons_self ..)
    unfold E1.Form at hx
    simp only [List.length_cons] at h2 h3
    have ih := sums_t xs (q + x.f3) (c + x.f4) (fun y hy => hf y (List.mem_cons_of_mem _ hy)) (by omega) (by omega) (by omega) (by omega)
    simp only [impl_LotsOk.sum3, impl_LotsOk.sum4, List.foldl_cons, tot, all4] at ih ⊢
    rw [w64_in (q + x.f3) (by omega) (by omega), w64_in (c + x.f4) (by omega) (by omega), ih.1, ih.2]
    omega
theorem tot_of (a b : Int) : ∀ l : List SL, tot (ofL a b l) = qty a b l ∧ all4 (ofL a b l) = cst a b l
  | [] => ⟨rfl, rfl⟩
  | x :: xs => by
    have ih := tot_of a b xs
    unfold ofL at *
    by_cases h : x.f0 = a ∧ x.f1 = b
    · rw [List.filter_cons_of_pos (by unfold Own; exact decide_eq_true h)]
      simp only [tot, all4, qty, cst]
      rw [if_pos h, if_pos h, ih.1, ih.2]
      exact ⟨rfl, rfl⟩
    · rw [List.filter_cons_of_neg (by unfold Own; rw [decide_eq_false h]; decide)]
      simp only [qty, cst]
      rw [if_neg h, if_neg h, ih.1, ih.2]
      omega
structure Own' (a b : Int) (own : List SL) : Prop where
  len : own.length ≤ 120
  form : ∀ x ∈ own, E1.Form x
  key : ∀ x ∈ own, x.f0 = a ∧ x.f1 = b
  pw : own.Pairwise Lt
  tot1 : tot own ≤ 1000000000000000
  all1 : all4 own ≤ 1000000000000000
theorem own_of {l : List SL} (h : E1.Right l) (a b : Int) : Own' a b (ofL a b l) where
  len := by have := of_len a b l; have := h.1; omega
  form x hx := h.2.1 x (List.mem_filter.1 hx).1
  key x hx := of_decide_eq_true (List.mem_filter.1 hx).2
  pw := (right_pw h.2.2.1).filter _
  tot1 := by rw [(tot_of a b l).1]; exact (h.2.2.2 a b).1.2
  all1 := by rw [(tot_of a b l).2]; exact (h.2.2.2 a b).2.2
theorem all4_pos : ∀ {m : List SL}, (∀ y ∈ m, E1.Form y) → 0 ≤ all4 m ∧ 0 ≤ tot m
  | [], _ => ⟨Int.le_refl _, Int.le_refl _⟩
  | z :: zs, hm => by
    have h4 := hm z (List.mem_cons_self ..)
    have h5 := all4_pos (m := zs) fun y hy => hm y (List.mem_cons_of_mem _ hy)
    unfold E1.Form at h4
    simp only [all4, tot]
    omega
end Go.Proofs.Ytomanpmffjkkgaa.E7
namespace Go.Proofs.Ytomanpmffjkkgaa.E8
open Go Go.RowKit Go.Proofs.Ytomanpmffjkkgaa.P Go.Proofs.YtomanpmffjkkgaaW.PrintWords Go.Proofs.YtomanpmffjkkgaaW.PrintLast Go.Proofs.Ytomanpmffjkkgaa.EV Go.Proofs.Ytomanpmffjkkgaa.I1 Go.Proofs.Ytomanpmffjkkgaa.N1 Go.Proofs.Ytomanpmffjkkgaa.E1 Go.Proofs.Ytomanpmffjkkgaa.E2 Go.Proofs.Ytomanpmffjkkgaa.E3 Go.Proofs.Ytomanpmffjkkgaa.E4 Go.Proofs.Ytomanpmffjkkgaa.E5 Go.Proofs.Ytomanpmffjkkgaa.E6 Go.Proofs.Ytomanpmffjkkgaa.E7
theorem filt_left (p : SL → Bool) : ∀ (xs ys : List SL), (∀ y ∈ ys, p y = false) → (mergeL xs ys).filter p = xs.filter p
  | [], ys, h => by
    rw [nil_merge, List.filter_nil]
    exact List.filter_eq_nil_iff.2 fun y hy => by rw [h y hy]; decide
  | x :: xs, [], _ => by rw [merge_nil]
  | x :: xs, y :: ys, h => by
    rw [mergeL]
    split
    · rw [List.filter_cons, List.filter_cons, filt_left p xs (y :: ys) h]
    · rw [List.filter_cons_of_neg (by rw [h y (List.mem_cons_self ..)]; decide), filt_left p (x :: xs) ys fun z hz => h z (List.mem_cons_of_mem _ hz)]
termination_by xs ys => xs.length + ys.length
theorem filt_right (p : SL → Bool) : ∀ (xs ys : List SL), (∀ x ∈ xs, p x = false) → (mergeL xs ys).filter p = ys.filter p
  | [], ys, _ => by rw [nil_merge]
  | x :: xs, [], h => by
    rw [merge_nil, List.filter_nil]
    exact List.filter_eq_nil_iff.2 fun y hy => by rw [h y hy]; decide
  | x :: xs, y :: ys, h => by
    rw [mergeL]
    split
    · rw [List.filter_cons_of_neg (by rw [h x (List.mem_cons_self ..)]; decide), filt_right p xs (y :: ys) fun z hz => h z (List.mem_cons_of_mem _ hz)]
    · rw [List.filter_cons, List.filter_cons, filt_right p (x :: xs) ys h]
termination_by xs ys => xs.length + ys.length
theorem own_true {a b : Int} {x : SL} (h : x.f0 = a ∧ x.f1 = b) : Own a b x = true := decide_eq_true h
theorem own_false {a b : Int} {x : SL} (h : ¬(x.f0 = a ∧ x.f1 = b)) : Own a b x = false := decide_eq_false h
theorem of_own {a b : Int} (l : List SL) {s : List SL} (hs : ∀ x ∈ s, x.f0 = a ∧ x.f1 = b) : ofL a b (mergeL (outL a b l) s) = s := by
  unfold ofL
  rw [filt_right _ _ _ fun x hx => by
    have h := (List.mem_filter.1 hx).2
    rwa [Bool.not_eq_true'] at h]
  exact List.filter_eq_self.2 fun x hx => own_true (hs x hx)
theorem of_other {a b c d : Int} (l : List SL) {s : List SL} (hs : ∀ x ∈ s, x.f0 = a ∧ x.f1 = b) (hn : ¬(c = a ∧ d = b)) : ofL c d (mergeL (outL a b l) s) = ofL c d l := by
  unfold ofL
  rw [filt_left _ _ _ fun x hx => own_false fun h => hn (by have := hs x hx; omega)]
  unfold outL
  rw [List.filter_filter]
  congr 1
  funext x
  by_cases h : x.f0 = c ∧ x.f1 = d
  · rw [own_true h, own_false (a := a) (b := b) fun g => hn (by omega)]
    rfl
  · rw [own_false h]
    rfl
theorem lots_of_right {l : List SL} (h : E1.Right l) (a b : Int) : lotsL l a b = ofL a b l ∧ impl_LotsOk.sum3 (lotsL l a b) 0 = tot (ofL a b l) ∧ impl_LotsOk.sum4 (lotsL l a b) 0 = all4 (ofL a b l) := by
  have e : lotsL l a b = ofL a b l := by
    unfold lotsL
    rw [if_pos ((ok_iff l).2 h)]
  have hO := own_of h a b
  have hs := sums_t (ofL a b l) 0 0 hO.form (by omega) (by omega) (by have := hO.len; omega) (by have := hO.len; omega)
  rw [e, hs.1, hs.2, Int.zero_add, Int.zero_add]
  exact ⟨rfl, rfl, rfl⟩
theorem qty_ri (l : List SL) (a b : Int) (hl : l.length ≤ 1048576) : Ev (fun k => impl_LotsQty.f k l a b) (impl_LotsOk.sum3 (lotsL l a b) 0) := by
  unfold impl_LotsQty.f
  have := lots_len l a b
  exact Ev_bind (Ev_all_k fun k => lotsOf_i l a b hl) (Ev_bind (sums_i _ (by omega)) (Ev_all_k fun k => rfl))
theorem cost_ri (l : List SL) (a b : Int) (hl : l.length ≤ 1048576) : Ev (fun k => impl_LotsCost.f k l a b) (impl_LotsOk.sum4 (lotsL l a b) 0) := by
  unfold impl_LotsCost.f
  have := lots_len l a b
  exact Ev_bind (Ev_all_k fun k => lotsOf_i l a b hl) (Ev_bind (sums_i _ (by omega)) (Ev_all_k fun k => rfl))
end Go.Proofs.Ytomanpmffjkkgaa.E8
namespace Go.Proofs.Ytomanpmffjkkgaa.TI
open Go Go.RowKit Go.Proofs.Ytomanpmffjkkgaa.P Go.Proofs.YtomanpmffjkkgaaW.PrintWords Go.Proofs.YtomanpmffjkkgaaW.PrintLast Go.Proofs.Ytomanpmffjkkgaa.EV
theorem rdi (l : List Int) (i : Nat) : rd l (i : Int) = l.getD i 0 := by unfold rd; rw [Int.toNat_natCast]
end Go.Proofs.Ytomanpmffjkkgaa.TI
namespace Go.Proofs.Ytomanpmffjkkgaa.W1
open Go Go.RowKit Go.Proofs.Ytomanpmffjkkgaa.P Go.Proofs.YtomanpmffjkkgaaW.PrintWords Go.Proofs.YtomanpmffjkkgaaW.PrintLast Go.Proofs.Ytomanpmffjkkgaa.EV Go.Proofs.Ytomanpmffjkkgaa.I1 Go.Proofs.Ytomanpmffjkkgaa.TI
theorem some_s1 (a least : Int) : spec_l1Some.f a least = some (decide (least ≤ a ∧ a ≤ 1000000000000000)) := by unfold spec_l1Some.f; rw [in_s]; rfl
def Few (l : List Int) : Prop := l.length ≤ 40 ∧ ∀ x ∈ l, 0 ≤ x ∧ x ≤ 1000000000000000
theorem Few.at {l : List Int} (h : Few l) (i : Nat) (hi : i < l.length) : 0 ≤ l.getD i 0 ∧ l.getD i 0 ≤ 1000000000000000 := by
  have : l.getD i 0 = l[i] := by rw [List.getD_eq_getElem?_getD, List.getElem?_eq_getElem hi]; rfl
  rw [this]
  exact h.2 _ (List.getElem_mem hi)
theorem sum_bound (l : List Int) (h : ∀ x ∈ l, 0 ≤ x ∧ x ≤ 1000000000000000) : 0 ≤ l.sum ∧ l.sum ≤ 1000000000000000 * l.length := by
  induction l with
  | nil => simp
  | cons x l ih =>
    have h1 := ih fun y hy => h y (List.mem_cons_of_mem _ hy)
    have h2 := h x (List.mem_cons_self ..)
    rw [List.sum_cons, List.length_cons]
    omega
theorem drop_bound {l : List Int} (h : Few l) (i : Nat) : 0 ≤ (l.drop i).sum ∧ (l.drop i).sum ≤ 40000000000000000 := by
  have h1 := sum_bound (l.drop i) fun x hx => h.2 x (List.mem_of_mem_drop hx)
  rw [List.length_drop] at h1
  have := h.1
  omega
theorem drop_sum (l : List Int) (i : Nat) (hi : i < l.length) : (l.drop i).sum = l.getD i 0 + (l.drop (i + 1)).sum := by rw [drop_getD 0 l i hi, List.sum_cons]
theorem all_s {l : List Int} (h : Few l) : Ev (fun k => spec_l2All.f k l) l.sum := by
  unfold spec_l2All.f
  have h2 := h.1
  have h' := Ev_goes (fun k s i => spec_l2All.l0 k l s i) l.length (fun i s => s + (l.drop i).sum) (fun i s => 0 ≤ s ∧ s + (l.drop i).sum = l.sum)
    (fun s hs => Ev_one fun k => by
      simp only [spec_l2All.l0]
      rw [if_neg (by omega), List.drop_length, List.sum_nil, Int.add_zero])
    (fun i s hi hs => .inr ⟨s + l.getD i 0, by
        have h3 := h.at i hi
        have h4 := drop_sum l i hi
        omega, by rw [drop_sum l i hi]; omega, fun k => by
        show spec_l2All.l0 (k + 1) l s (i : Int) = _
        simp only [spec_l2All.l0]
        have h3 := h.at i hi
        have h4 := drop_sum l i hi
        have h5 := drop_bound h (i + 1)
        have h6 := drop_bound h 0
        rw [List.drop_zero] at h6
        rw [if_pos (by omega), if_pos (by omega), w_succ hi (by omega), rdi, w64_in _ (by omega) (by omega)]⟩) l.length 0 0 (by omega) (by omega) (by rw [List.drop_zero]; omega)
  rw [List.drop_zero, Int.zero_add] at h'
  exact h'
theorem all_i {l : List Int} (h : Few l) : Ev (fun k => impl_sumOf.f k l) l.sum := by
  unfold impl_sumOf.f
  have h2 := h.1
  have h' := Ev_goes (fun k s i => impl_sumOf.l0 k s l (l.length : Int) i) l.length (fun i s => s + (l.drop i).sum) (fun i s => 0 ≤ s ∧ s + (l.drop i).sum = l.sum)
    (fun s hs => Ev_one fun k => by
      simp only [impl_sumOf.l0]
      rw [if_neg (by omega), List.drop_length, List.sum_nil, Int.add_zero])
    (fun i s hi hs => .inr ⟨s + l.getD i 0, by
        have h3 := h.at i hi
        have h4 := drop_sum l i hi
        omega, by rw [drop_sum l i hi]; omega, fun k => by
        show impl_sumOf.l0 (k + 1) s l (l.length : Int) (i : Int) = _
        simp only [impl_sumOf.l0]
        have h3 := h.at i hi
        have h4 := drop_sum l i hi
        have h5 := drop_bound h (i + 1)
        have h6 := drop_bound h 0
        rw [List.drop_zero] at h6
        rw [if_pos (by omega), if_pos (by omega), if_pos (by omega), w_succ hi (by omega), rdi, w64_in _ (by omega) (by omega)]⟩) l.length 0 0 (by omega) (by omega) (by rw [List.drop_zero]; omega)
  rw [List.drop_zero, Int.zero_add] at h'
  exact h'
def OkW (l : List Int) : Prop := (1 ≤ (l.length : Int) ∧ (l.length : Int) ≤ 40 ∧ (∀ x ∈ l, 0 ≤ x ∧ x ≤ 1000000000000000)) ∧ 1 ≤ l.sum ∧ l.sum ≤ 1000000000000000
noncomputable def okW (l : List Int) : Bool := @decide (OkW l) (Classical.propDecidable _)
theorem okW_iff (l : List Int) : okW l = true ↔ OkW l := by unfold okW; exact @decide_eq_true_iff _ (Classical.propDecidable _)
theorem OkW.few {l : List Int} (h : OkW l) : Few l := ⟨by have := h.1.2.1; omega, h.1.2.2⟩
theorem okW_no {l : List Int} (h : ¬ OkW l) : okW l = false := by rw [Bool.eq_false_iff, Ne, okW_iff]; exact h
theorem okW_sum {l : List Int} (h : 1 ≤ (l.length : Int) ∧ (l.length : Int) ≤ 40 ∧ (∀ x ∈ l, 0 ≤ x ∧ x ≤ 1000000000000000)) : decide (1 ≤ l.sum ∧ l.sum ≤ 1000000000000000) = okW l := by
  rw [Bool.eq_iff_iff, okW_iff, decide_eq_true_iff]
  exact ⟨fun g => ⟨h, g⟩, fun g => g.2⟩
theorem weightsOk_i (l : List Int) : Ev (fun k => impl_WeightsOk.f k l) (okW l) := by
  unfold impl_WeightsOk.f
  by_cases h : 1 ≤ (l.length : Int) ∧ (l.length : Int) ≤ 40 ∧ (∀ x ∈ l, 0 ≤ x ∧ x ≤ 1000000000000000)
  · refine Ev.congr (fun k => by rw [if_pos h]) (Ev_bind (all_i ⟨by omega, h.2.2⟩) (Ev_all_k fun k => ?_))
    rw [okW_sum h]
  · rw [okW_no fun g => h g.1]
    exact Ev_all_k fun k => by rw [if_neg h]
theorem weightsOk_s (l : List Int) : Ev (fun k => spec_WeightsOk.f k l) (okW l) := by
  unfold spec_WeightsOk.f
  by_cases hn : 1 ≤ (l.length : Int) ∧ (l.length : Int) ≤ 40
  · refine Ev.congr (f := fun k => spec_WeightsOk.l0 k l 0) (fun k => by rw [in_s, decide_eq_true hn, Option.bind_some, if_pos rfl]) ?_
    by_cases hall : ∀ x ∈ l, 0 ≤ x ∧ x ≤ 1000000000000000
    · obtain ⟨r, hr, hiff⟩ := Ev_asks (fun k i => spec_WeightsOk.l0 k l i) l.length (fun j => 0 ≤ l.getD j 0 ∧ l.getD j 0 ≤ 1000000000000000) (okW l)
        (Ev.step (f := fun k => (spec_l2All.f k l).bind fun t106 => ((spec_l1Some.f t106 1).bind fun t107 => (some t107))) (fun k => by simp only [spec_WeightsOk.l0]; rw [if_neg (by omega)])
          (Ev_bind (all_s ⟨by omega, hall⟩) (Ev_all_k fun k => by rw [some_s1, Option.bind_some, okW_sum ⟨hn.1, hn.2, hall⟩])))
        (fun i hi => .inl ⟨Few.at ⟨by omega, hall⟩ i hi, fun k => by
          show spec_WeightsOk.l0 (k + 1) l (i : Int) = _
          simp only [spec_WeightsOk.l0]
          rw [if_pos (by omega), if_pos (by omega), w_succ hi (by omega), rdi, some_s1, Option.bind_some, decide_eq_true (Few.at ⟨by omega, hall⟩ i hi), if_pos rfl]⟩) l.length 0 (by omega) (by omega)
      have : r = okW l := by
        rw [Bool.eq_iff_iff, hiff]
        exact ⟨fun g => g.2, fun g => ⟨fun j _ hj => Few.at ⟨by omega, hall⟩ j hj, g⟩⟩
      exact this ▸ hr
    · rw [okW_no fun g => hall g.1.2.2]
      -- the first that is out of bounds
      have hbad : ∃ j, j < l.length ∧ ¬ (0 ≤ l.getD j 0 ∧ l.getD j 0 ≤ 1000000000000000) := by
        apply Classical.byContradiction
        intro hno
        apply hall
        intro x hx
        obtain ⟨j, hj, rfl⟩ := List.getElem_of_mem hx
        have e : l.getD j 0 = l[j] := by rw [List.getD_eq_getElem?_getD, List.getElem?_eq_getElem hj]; rfl
        apply Classical.byContradiction
        intro hq
        exact hno ⟨j, hj, by rw [e]; exact hq⟩
      obtain ⟨j, hj, hb⟩ := hbad
      have key : ∀ (d i : Nat), j - i = d → i ≤ j → Ev (fun k => spec_WeightsOk.l0 k l (i : Int)) false := by
        intro d
        induction d with
        | zero =>
          intro i hd hi
          obtain rfl : i = j := by omega
          exact Ev_one fun k => by
            simp only [spec_WeightsOk.l0]
            rw [if_pos (by omega), if_pos (by omega), rdi, some_s1, Option.bind_some, decide_eq_false hb, if_neg (by decide)]
        | succ d ih =>
          intro i hd hi
          by_cases hg : 0 ≤ l.getD i 0 ∧ l.getD i 0 ≤ 1000000000000000
          · refine Ev.step (f := fun k => spec_WeightsOk.l0 k l ((i + 1 : Nat) : Int)) (fun k => ?_) (ih (i + 1) (by omega) (by omega))
            simp only [spec_WeightsOk.l0]
            rw [if_pos (by omega), if_pos (by omega), w_succ (by omega : i < l.length) (by omega), rdi, some_s1, Option.bind_some, decide_eq_true hg, if_pos rfl]
          · exact Ev_one fun k => by
              simp only [spec_WeightsOk.l0]
              rw [if_pos (by omega), if_pos (by omega), rdi, some_s1, Option.bind_some, decide_eq_false hg, if_neg (by decide)]
      exact key j 0 (by omega) (by omega)
  · rw [okW_no fun g => hn ⟨g.1.1, g.1.2.1⟩]
    exact Ev_all_k fun k => by rw [in_s, decide_eq_false hn, Option.bind_some, if_neg (by decide)]
end Go.Proofs.Ytomanpmffjkkgaa.W1
namespace Go.Proofs.Ytomanpmffjkkgaa.W2
open Go Go.RowKit Go.Proofs.Ytomanpmffjkkgaa.P Go.Proofs.YtomanpmffjkkgaaW.PrintWords Go.Proofs.YtomanpmffjkkgaaW.PrintLast Go.Proofs.Ytomanpmffjkkgaa.EV Go.Proofs.Ytomanpmffjkkgaa.I1 Go.Proofs.Ytomanpmffjkkgaa.A2 Go.Proofs.Ytomanpmffjkkgaa.TI Go.Proofs.Ytomanpmffjkkgaa.W1
def InT (t : Int) : Prop := 0 ≤ t ∧ t ≤ 1000000000000000
instance (t : Int) : Decidable (InT t) := by unfold InT; exact inferInstance
open Classical in
noncomputable def quota (t : Int) (l : List Int) (i : Int) : Int × Int × Bool := if OkW l ∧ InT t ∧ 0 ≤ i ∧ i < l.length then mdR t (rd l i) l.sum else (0, 0, false)
theorem shareable_i (t : Int) (l : List Int) : Ev (fun k => impl_shareable.f k t l) (okW l && decide (InT t)) := by
  unfold impl_shareable.f
  refine Ev_bind (weightsOk_i l) (Ev_all_k fun k => ?_)
  cases okW l with
  | true => rw [if_pos rfl, in_i, Option.bind_some]; rfl
  | false => rw [if_neg (by decide)]; rfl
theorem quota_no {t : Int} {l : List Int} {i : Int} (h : ¬ (OkW l ∧ InT t ∧ 0 ≤ i ∧ i < l.length)) : quota t l i = (0, 0, false) := if_neg h
theorem quota_yes {t : Int} {l : List Int} {i : Int} (h : OkW l ∧ InT t ∧ 0 ≤ i ∧ i < l.length) : quota t l i = mdR t (rd l i) l.sum := if_pos h
theorem quota_i (t : Int) (l : List Int) (i : Int) : Ev (fun k => impl_ShareQuota.f k t l i) (quota t l i) := by
  unfold impl_ShareQuota.f
  refine Ev_bind (shareable_i t l) ?_
  by_cases h : OkW l
  · by_cases ht : InT t
    · have e : (okW l && decide (InT t)) = true := by rw [(okW_iff l).2 h, decide_eq_true ht]; rfl
      have hl := h.1
      refine Ev.congr (f := fun k => impl_ShareQuota.j0 k t l i (!decide (0 ≤ i ∧ i ≤ (l.length : Int) - 1))) (fun k => by rw [if_pos e, in_i, Option.bind_some, w64_in _ (by omega) (by omega)]) ?_
      by_cases hi : 0 ≤ i ∧ i ≤ (l.length : Int) - 1
      · rw [quota_yes ⟨h, ht, hi.1, by omega⟩]
        refine Ev.step (f := fun k => (impl_sumOf.f k l).bind fun t154 => ((impl_MulDiv.f k t (rd l i) t154).bind fun bt155 => (some (bt155.1, bt155.2.1, bt155.2.2)))) (fun k => by
          simp only [impl_ShareQuota.j0]
          rw [if_neg (by rw [decide_eq_true hi]; decide), if_pos hi.1, if_pos (by omega)]) ?_
        exact Ev_bind (all_i h.few) (Ev_bind (mulDiv_i _ _ _) (Ev_all_k fun k => rfl))
      · rw [quota_no fun g => hi ⟨g.2.2.1, by omega⟩]
        exact Ev_one fun k => by
          simp only [impl_ShareQuota.j0]
          rw [if_pos (by rw [decide_eq_false hi]; rfl)]
    · rw [quota_no fun g => ht g.2.1]
      refine Ev.congr (f := fun k => impl_ShareQuota.j0 k t l i true) (fun k => by rw [if_neg (by rw [decide_eq_false ht, Bool.and_false]; decide)]) ?_
      exact Ev_one fun k => by
        simp only [impl_ShareQuota.j0]
        rw [if_pos trivial]
  · rw [quota_no fun g => h g.1]
    refine Ev.congr (f := fun k => impl_ShareQuota.j0 k t l i true) (fun k => by rw [if_neg (by rw [okW_no h, Bool.false_and]; decide)]) ?_
    exact Ev_one fun k => by
      simp only [impl_ShareQuota.j0]
      rw [if_pos trivial]
theorem quota_s (t : Int) (l : List Int) (i : Int) : Ev (fun k => spec_ShareQuota.f k t l i) (quota t l i) := by
  unfold spec_ShareQuota.f
  refine Ev_bind (weightsOk_s l) ?_
  by_cases h : OkW l
  · by_cases ht : InT t
    · have hl := h.1
      refine Ev.congr (f := fun k => spec_ShareQuota.j0 k t l i (!decide (0 ≤ i ∧ i ≤ (l.length : Int) - 1))) (fun k => by rw [if_pos ((okW_iff l).2 h), some_s1, Option.bind_some, if_pos (decide_eq_true (show 0 ≤ t ∧ t ≤ 1000000000000000 from ht)), in_s, Option.bind_some, w64_in _ (by omega) (by omega)]) ?_
      by_cases hi : 0 ≤ i ∧ i ≤ (l.length : Int) - 1
      · rw [quota_yes ⟨h, ht, hi.1, by omega⟩]
        refine Ev.step (f := fun k => (spec_l2All.f k l).bind fun t136 => ((spec_MulDiv.f k t (rd l i) t136).bind fun bt137 => (some (bt137.1, bt137.2.1, bt137.2.2)))) (fun k => by
          simp only [spec_ShareQuota.j0]
          rw [if_neg (by rw [decide_eq_true hi]; decide), if_pos hi.1, if_pos (by omega)]) ?_
        exact Ev_bind (all_s h.few) (Ev_bind (mulDiv_s _ _ _) (Ev_all_k fun k => rfl))
      · rw [quota_no fun g => hi ⟨g.2.2.1, by omega⟩]
        exact Ev_one fun k => by
          simp only [spec_ShareQuota.j0]
          rw [if_pos (by rw [decide_eq_false hi]; rfl)]
    · rw [quota_no fun g => ht g.2.1]
      refine Ev.congr (f := fun k => spec_ShareQuota.j0 k t l i true) (fun k => by rw [if_pos ((okW_iff l).2 h), some_s1, Option.bind_some, if_neg (by unfold InT at ht; rw [decide_eq_false ht]; decide)]) ?_
      exact Ev_one fun k => by
        simp only [spec_ShareQuota.j0]
        rw [if_pos trivial]
  · rw [quota_no fun g => h g.1]
    refine Ev.congr (f := fun k => spec_ShareQuota.j0 k t l i true) (fun k => by rw [if_neg (by rw [okW_no h]; decide)]) ?_
    exact Ev_one fun k => by
      simp only [spec_ShareQuota.j0]
      rw [if_pos trivial]
end Go.Proofs.Ytomanpmffjkkgaa.W2
namespace Go.Proofs.Ytomanpmffjkkgaa.S1
section
variable {α : Type} (lt : α → α → Prop) [DecidableRel lt]
def mrg : List α → List α → List α
  | [], ys => ys
  | x :: xs, [] => x :: xs
  | x :: xs, y :: ys => if lt y x then y :: mrg (x :: xs) ys else x :: mrg xs (y :: ys)
termination_by xs ys => xs.length + ys.length
theorem mrg_nil (xs : List α) : mrg lt xs [] = xs := by cases xs <;> simp [mrg]
theorem nil_mrg (ys : List α) : mrg lt [] ys = ys := by simp [mrg]
theorem mrg_perm : ∀ (xs ys : List α), (mrg lt xs ys).Perm (xs ++ ys)
  | [], ys => by rw [nil_mrg]; exact List.Perm.refl _
  | x :: xs, [] => by rw [mrg_nil, List.append_nil]
  | x :: xs, y :: ys => by
    rw [mrg]
    split
    · refine ((mrg_perm (x :: xs) ys).cons y).trans ?_
      exact (List.perm_middle (l₁ := x :: xs) (l₂ := ys) (a := y)).symm
    · exact (mrg_perm xs (y :: ys)).cons x
termination_by xs ys => xs.length + ys.length
theorem mrg_halves : ∀ (A1 A2 B1 B2 : List α), (∀ x ∈ A1, ∀ y ∈ B2, ¬lt y x) → (∀ y ∈ B1, ∀ x ∈ A2, lt y x) → mrg lt (A1 ++ A2) (B1 ++ B2) = mrg lt A1 B1 ++ mrg lt A2 B2
  | [], A2, [], B2, _, _ => by simp [mrg]
  | [], [], y :: ys, B2, _, _ => by simp [mrg]
  | [], x :: xs, y :: ys, B2, h1, h2 => by
    have ih := mrg_halves [] (x :: xs) ys B2 (fun a ha => by cases ha) fun b hb a ha => h2 b (List.mem_cons_of_mem _ hb) a ha
    simp only [List.nil_append, List.cons_append, nil_mrg] at ih ⊢
    rw [mrg, if_pos (h2 y (List.mem_cons_self ..) x (List.mem_cons_self ..)), ih]
  | x :: xs, A2, [], [], _, _ => by simp [mrg_nil]
  | x :: xs, A2, [], y :: ys, h1, h2 => by
    have ih := mrg_halves xs A2 [] (y :: ys) (fun a ha => h1 a (List.mem_cons_of_mem _ ha)) fun b hb => by cases hb
    simp only [List.nil_append, List.cons_append, mrg_nil] at ih ⊢
    rw [mrg, if_neg (h1 x (List.mem_cons_self ..) y (List.mem_cons_self ..)), ih]
  | x :: xs, A2, y :: ys, B2, h1, h2 => by
    simp only [List.cons_append]
    by_cases h : lt y x
    · have ih := mrg_halves (x :: xs) A2 ys B2 h1 fun b hb => h2 b (List.mem_cons_of_mem _ hb)
      simp only [List.cons_append] at ih
      rw [mrg, if_pos h, ih, mrg, if_pos h, List.cons_append]
    · have ih := mrg_halves xs A2 (y :: ys) B2 (fun a ha => h1 a (List.mem_cons_of_mem _ ha)) h2
      simp only [List.cons_append] at ih
      rw [mrg, if_neg h, ih, mrg, if_neg h, List.cons_append]
termination_by A1 _ B1 _ => A1.length + B1.length
theorem mrg_pw (hT : ∀ {x y z : α}, lt x y → lt y z → lt x z) : ∀ (xs ys : List α), xs.Pairwise lt → ys.Pairwise lt → (∀ x ∈ xs, ∀ y ∈ ys, lt y x ∨ lt x y) → (mrg lt xs ys).Pairwise lt
  | [], ys, _, h, _ => by rw [nil_mrg]; exact h
  | x :: xs, [], h, _, _ => by rw [mrg_nil]; exact h
  | x :: xs, y :: ys, hx, hy, hk => by
    have hx2 := List.pairwise_cons.1 hx
    have hy2 := List.pairwise_cons.1 hy
    rw [mrg]
    split
    · rename_i hl
      refine List.pairwise_cons.2 ⟨fun z hz => ?_, mrg_pw hT (x :: xs) ys hx hy2.2 fun a ha b hb => hk a ha b (List.mem_cons_of_mem _ hb)⟩
      rcases List.mem_append.1 ((mrg_perm lt (x :: xs) ys).mem_iff.1 hz) with h | h
      · rcases List.mem_cons.1 h with e | h
        · rw [e]; exact hl
        · exact hT hl (hx2.1 z h)
      · exact hy2.1 z h
    · rename_i hl
      have hl2 : lt x y := (hk x (List.mem_cons_self ..) y (List.mem_cons_self ..)).resolve_left hl
      refine List.pairwise_cons.2 ⟨fun z hz => ?_, mrg_pw hT xs (y :: ys) hx2.2 hy fun a ha b hb => hk a (List.mem_cons_of_mem _ ha) b hb⟩
      rcases List.mem_append.1 ((mrg_perm lt xs (y :: ys)).mem_iff.1 hz) with h | h
      · exact hx2.1 z h
      · rcases List.mem_cons.1 h with e | h
        · rw [e]; exact hl2
        · exact hT hl2 (hy2.1 z h)
termination_by xs ys => xs.length + ys.length
end
end Go.Proofs.Ytomanpmffjkkgaa.S1
namespace Go.Proofs.Ytomanpmffjkkgaa.S2
open Go.Proofs.Ytomanpmffjkkgaa.S1
section
variable {α : Type} [Inhabited α]
def swap1 (l : List α) (i j : Nat) : List α := (l.set i (l.getD j default)).set j (l.getD i default)
def swapR (l : List α) (a b : Nat) : Nat → List α
  | 0 => l
  | n + 1 => swap1 (swapR l a b n) (a + n) (b + n)
theorem swap1_seg (P M Q : List α) (x y : α) : swap1 (P ++ x :: (M ++ y :: Q)) P.length (P.length + 1 + M.length) = P ++ y :: (M ++ x :: Q) := by
  have e1 : (P ++ x :: (M ++ y :: Q)).getD P.length default = x := by simp
  have e2 : (P ++ x :: (M ++ y :: Q)).getD (P.length + 1 + M.length) default = y := by
    rw [List.getD_eq_getElem?_getD, List.getElem?_append_right (by omega), show P.length + 1 + M.length - P.length = M.length + 1 by omega, List.getElem?_cons_succ, List.getElem?_append_right (Nat.le_refl _), Nat.sub_self]
    rfl
  unfold swap1
  rw [e1, e2, List.set_append_right _ _ (Nat.le_refl _), Nat.sub_self, List.set_cons_zero, List.set_append_right _ _ (by omega), show P.length + 1 + M.length - P.length = M.length + 1 by omega, List.set_cons_succ, List.set_append_right _ _ (Nat.le_refl _), Nat.sub_self, List.set_cons_zero]
theorem swapR_seg : ∀ (n : Nat) (P X M Y Q : List α), X.length = n → Y.length = n → swapR (P ++ (X ++ (M ++ (Y ++ Q)))) P.length (P.length + n + M.length) n = P ++ (Y ++ (M ++ (X ++ Q)))
  | 0, P, X, M, Y, Q, hx, hy => by
    rw [List.length_eq_zero_iff.1 hx, List.length_eq_zero_iff.1 hy]
    rfl
  | n + 1, P, X, M, Y, Q, hx, hy => by
    obtain ⟨X', x, rfl⟩ : ∃ X' x, X = X' ++ [x] := ⟨X.dropLast, X.getLast (by intro h; rw [h] at hx; cases hx), (List.dropLast_concat_getLast _).symm⟩
    obtain ⟨Y', y, rfl⟩ : ∃ Y' y, Y = Y' ++ [y] := ⟨Y.dropLast, Y.getLast (by intro h; rw [h] at hy; cases hy), (List.dropLast_concat_getLast _).symm⟩
    have hx' : X'.length = n := by simpa using hx
    have hy' : Y'.length = n := by simpa using hy
    have ih := swapR_seg n P X' ([x] ++ M) Y' ([y] ++ Q) hx' hy'
    have e : P.length + n + ([x] ++ M).length = P.length + (n + 1) + M.length := by simp; omega
    rw [e] at ih
    have e2 : P ++ ((X' ++ [x]) ++ (M ++ ((Y' ++ [y]) ++ Q))) = P ++ (X' ++ (([x] ++ M) ++ (Y' ++ ([y] ++ Q)))) := by simp
    rw [swapR, e2, ih]
    have h := swap1_seg (P ++ Y') (M ++ X') Q x y
    have l1 : (P ++ Y').length = P.length + n := by simp [hy']
    have l2 : (P ++ Y').length + 1 + (M ++ X').length = P.length + (n + 1) + M.length + n := by simp [hx', hy']; omega
    rw [l2, l1] at h
    have e3 : P ++ (Y' ++ (([x] ++ M) ++ (X' ++ ([y] ++ Q)))) = (P ++ Y') ++ x :: ((M ++ X') ++ y :: Q) := by simp
    rw [e3, h]
    simp
def rot (l : List α) (m : Nat) : Nat → Nat → Nat → List α
  | 0, _, _ => l
  | k + 1, i, j => if i = j then swapR l (m - i) m i else if i > j then rot (swapR l (m - i) m j) m k (i - j) j else rot (swapR l (m - i) (m + j - i) i) m k i (j - i)
theorem rot_seg : ∀ (k : Nat) (P X Y Q : List α), X.length + Y.length ≤ k → 0 < X.length → 0 < Y.length → rot (P ++ (X ++ (Y ++ Q))) (P.length + X.length) k X.length Y.length = P ++ (Y ++ (X ++ Q))
  | 0, P, X, Y, Q, h, h0, _ => by omega
  | k + 1, P, X, Y, Q, h, h0, h1 => by
    rw [rot]
    split
    · rename_i e
      have := swapR_seg X.length P X [] Y Q rfl e.symm
      simp only [List.nil_append, List.length_nil, Nat.add_zero] at this
      rw [show P.length + X.length - X.length = P.length by omega]
      exact this
    · rename_i e
      split
      · rename_i g
        obtain ⟨X1, X2, rfl, hX1⟩ : ∃ X1 X2, X = X1 ++ X2 ∧ X1.length = Y.length := ⟨X.take Y.length, X.drop Y.length, (List.take_append_drop _ _).symm, by rw [List.length_take]; omega⟩
        have hs := swapR_seg Y.length P X1 X2 Y Q hX1 rfl
        have e1 : P ++ ((X1 ++ X2) ++ (Y ++ Q)) = P ++ (X1 ++ (X2 ++ (Y ++ Q))) := by simp
        have e2 : P.length + (X1 ++ X2).length = P.length + Y.length + X2.length := by rw [List.length_append]; omega
        rw [e1, e2, show P.length + Y.length + X2.length - (X1 ++ X2).length = P.length by rw [List.length_append]; omega, hs, show (X1 ++ X2).length - Y.length = X2.length by rw [List.length_append]; omega]
        have ih := rot_seg k (P ++ Y) X2 X1 Q (by rw [List.length_append] at h; omega) (by rw [List.length_append] at g; omega) (by omega)
        rw [hX1, List.length_append] at ih
        have e3 : P ++ (Y ++ (X2 ++ (X1 ++ Q))) = (P ++ Y) ++ (X2 ++ (X1 ++ Q)) := by simp
        rw [e3, ih]
        simp
      · rename_i g
        have g' : X.length < Y.length := by omega
        obtain ⟨Y1, Y2, rfl, hY2⟩ : ∃ Y1 Y2, Y = Y1 ++ Y2 ∧ Y2.length = X.length := ⟨Y.take (Y.length - X.length), Y.drop (Y.length - X.length), (List.take_append_drop _ _).symm, by rw [List.length_drop]; omega⟩
        have hs := swapR_seg X.length P X Y1 Y2 Q rfl hY2
        have e1 : P ++ (X ++ ((Y1 ++ Y2) ++ Q)) = P ++ (X ++ (Y1 ++ (Y2 ++ Q))) := by simp
        have hl : (Y1 ++ Y2).length = Y1.length + X.length := by rw [List.length_append, hY2]
        rw [e1, hl, show P.length + X.length - X.length = P.length by omega, show P.length + X.length + (Y1.length + X.length) - X.length = P.length + X.length + Y1.length by omega, hs, show Y1.length + X.length - X.length = Y1.length by omega]
        have ih := rot_seg k P Y2 Y1 (X ++ Q) (by rw [hl] at h; omega) (by omega) (by rw [hl] at g'; omega)
        rw [hY2] at ih
        have e3 : P ++ (Y2 ++ (Y1 ++ (X ++ Q))) = P ++ (Y2 ++ (Y1 ++ (X ++ Q))) := rfl
        rw [ih]
        simp
end
def bs (P : Nat → Bool) : Nat → Nat → Nat → Nat
  | 0, s, _ => s
  | k + 1, s, r => if s < r then (if P ((s + r) / 2) = true then bs P k ((s + r) / 2 + 1) r else bs P k s ((s + r) / 2)) else s
theorem bs_ok (P : Nat → Bool) : ∀ (k s r : Nat), r - s ≤ k → s ≤ r → (∀ c d, s ≤ c → c ≤ d → d < r → P d = true → P c = true) →
    s ≤ bs P k s r ∧ bs P k s r ≤ r ∧ (∀ c, s ≤ c → c < bs P k s r → P c = true) ∧ ∀ c, bs P k s r ≤ c → c < r → P c = false
  | 0, s, r, h, hs, _ => by
    simp only [bs]
    exact ⟨Nat.le_refl _, hs, fun c h1 h2 => by omega, fun c h1 h2 => by omega⟩
  | k + 1, s, r, h, hs, hm => by
    rw [bs]
    by_cases h0 : s < r
    · rw [if_pos h0]
      by_cases hp : P ((s + r) / 2) = true
      · rw [if_pos hp]
        obtain ⟨i1, i2, i3, i4⟩ := bs_ok P k ((s + r) / 2 + 1) r (by omega) (by omega) (fun c d h1 h2 h3 => hm c d (by omega) h2 h3)
        refine ⟨by omega, i2, fun c h1 h2 => ?_, i4⟩
        by_cases hc : c ≤ (s + r) / 2
        · exact hm c ((s + r) / 2) h1 hc (by omega) hp
        · exact i3 c (by omega) h2
      · rw [if_neg hp]
        obtain ⟨i1, i2, i3, i4⟩ := bs_ok P k s ((s + r) / 2) (by omega) (by omega) (fun c d h1 h2 h3 => hm c d h1 h2 (by omega))
        refine ⟨i1, by omega, i3, fun c h1 h2 => ?_⟩
        by_cases hc : c < (s + r) / 2
        · exact i4 c h1 hc
        · cases hq : P c with
          | false => rfl
          | true => exact absurd (hm ((s + r) / 2) c (by omega) (by omega) h2 hq) hp
    · rw [if_neg h0]
      exact ⟨Nat.le_refl _, hs, fun c h1 h2 => by omega, fun c h1 h2 => by omega⟩
end Go.Proofs.Ytomanpmffjkkgaa.S2
namespace Go.Proofs.Ytomanpmffjkkgaa.S3
open Go.Proofs.Ytomanpmffjkkgaa.S1 Go.Proofs.Ytomanpmffjkkgaa.S2
section
variable {α : Type} (lt : α → α → Prop) [DecidableRel lt]
theorem mrg_one (x : α) (B1 B2 : List α) (h1 : ∀ y ∈ B1, lt y x) (h2 : ∀ y ∈ B2, ¬lt y x) : mrg lt [x] (B1 ++ B2) = B1 ++ x :: B2 := by
  have h := mrg_halves lt [] [x] B1 B2 (fun a ha => by cases ha) (fun y hy a ha => by rw [List.mem_singleton.1 ha]; exact h1 y hy)
  rw [List.nil_append, nil_mrg] at h
  rw [h]
  have h3 := mrg_halves lt [x] [] [] B2 (fun a ha y hy => by rw [List.mem_singleton.1 ha]; exact h2 y hy) (fun y hy => by cases hy)
  rw [List.append_nil, List.nil_append, mrg_nil, nil_mrg] at h3
  rw [h3]
  rfl
theorem mrg_last (y : α) (A1 A2 : List α) (h1 : ∀ x ∈ A1, ¬lt y x) (h2 : ∀ x ∈ A2, lt y x) : mrg lt (A1 ++ A2) [y] = A1 ++ y :: A2 := by
  have h := mrg_halves lt A1 A2 [] [y] (fun x hx b hb => by rw [List.mem_singleton.1 hb]; exact h1 x hx) (fun b hb => by cases hb)
  rw [List.nil_append, mrg_nil] at h
  rw [h]
  have h3 := mrg_halves lt [] A2 [y] [] (fun a ha => by cases ha) (fun b hb x hx => by rw [List.mem_singleton.1 hb]; exact h2 x hx)
  rw [List.append_nil, List.nil_append, mrg_nil, nil_mrg] at h3
  rw [h3]
  rfl
end
section
variable {α : Type} [Inhabited α]
def up (l : List α) : Nat → Nat → List α
  | _, 0 => l
  | k, n + 1 => up (swap1 l k (k + 1)) (k + 1) n
def down (l : List α) : Nat → Nat → List α
  | _, 0 => l
  | k, n + 1 => down (swap1 l k (k - 1)) (k - 1) n
def symM (c : α → α → Bool) : Nat → List α → Nat → Nat → Nat → List α
  | 0, l, _, _, _ => l
  | k + 1, l, a, m, b =>
    if m - a = 1 then up l a (bs (fun h => c (l.getD h default) (l.getD a default)) (b - m) m b - 1 - a)
    else if b - m = 1 then down l m (m - bs (fun h => !c (l.getD m default) (l.getD h default)) (m - a) a m)
    else
      let mid := (a + b) / 2
      let s := bs (fun q => !c (l.getD (mid + m - 1 - q) default) (l.getD q default)) (b - a) (if m > mid then mid + m - b else a) (if m > mid then mid else m)
      let l1 := if s < m ∧ m < mid + m - s then rot l m (b - a) (m - s) (mid - s) else l
      let l2 := if a < s ∧ s < mid then symM c k l1 a s mid else l1
      if mid < mid + m - s ∧ mid + m - s < b then symM c k l2 mid (mid + m - s) b else l2
theorem up_seg : ∀ (Y P Q : List α) (x : α), up (P ++ x :: (Y ++ Q)) P.length Y.length = P ++ (Y ++ x :: Q)
  | [], P, Q, x => rfl
  | y :: Y, P, Q, x => by
    have h := swap1_seg P [] (Y ++ Q) x y
    simp only [List.nil_append, List.length_nil, Nat.add_zero] at h
    rw [List.length_cons, up]
    simp only [List.cons_append]
    rw [h]
    have ih := up_seg Y (P ++ [y]) Q x
    rw [List.length_append, List.length_singleton] at ih
    rw [show P ++ y :: x :: (Y ++ Q) = (P ++ [y]) ++ x :: (Y ++ Q) by simp, ih]
    simp
theorem swap1_comm (l : List α) (i j : Nat) (h : i ≠ j) : swap1 l i j = swap1 l j i := by
  unfold swap1
  exact List.set_comm _ _ h
theorem down_seg : ∀ (n : Nat) (X P Q : List α) (y : α), X.length = n → down (P ++ (X ++ y :: Q)) (P.length + n) n = P ++ y :: (X ++ Q)
  | 0, X, P, Q, y, h => by rw [List.length_eq_zero_iff.1 h]; rfl
  | n + 1, X, P, Q, y, h => by
    obtain ⟨X', x, rfl⟩ : ∃ X' x, X = X' ++ [x] := ⟨X.dropLast, X.getLast (by intro e; rw [e] at h; cases h), (List.dropLast_concat_getLast _).symm⟩
    have h' : X'.length = n := by simpa using h
    have hs := swap1_seg (P ++ X') [] Q x y
    simp only [List.nil_append, List.length_nil, Nat.add_zero] at hs
    have l1 : (P ++ X').length = P.length + n := by simp [h']
    rw [l1] at hs
    rw [down, show P.length + (n + 1) - 1 = P.length + n by omega, swap1_comm _ _ _ (by omega), show P.length + (n + 1) = P.length + n + 1 by omega, show P ++ ((X' ++ [x]) ++ y :: Q) = (P ++ X') ++ x :: y :: Q by simp, hs, show (P ++ X') ++ y :: x :: Q = P ++ (X' ++ y :: ([x] ++ Q)) by simp]
    rw [down_seg n X' P ([x] ++ Q) y h']
    simp
variable (lt : α → α → Prop)
theorem asc {A : List α} (h : A.Pairwise lt) {i j : Nat} (hij : i ≤ j) (hj : j < A.length) : A.getD i default = A.getD j default ∨ lt (A.getD i default) (A.getD j default) := by
  by_cases e : i = j
  · exact .inl (by rw [e])
  · right
    rw [List.getD_eq_getElem?_getD, List.getD_eq_getElem?_getD, List.getElem?_eq_getElem (by omega), List.getElem?_eq_getElem hj]
    exact (List.pairwise_iff_getElem.1 h) i j (by omega) hj (by omega)
theorem mem_getD {A : List α} {x : α} (h : x ∈ A) : ∃ i, i < A.length ∧ A.getD i default = x := by
  obtain ⟨i, hi, e⟩ := List.getElem_of_mem h
  exact ⟨i, hi, by rw [List.getD_eq_getElem?_getD, List.getElem?_eq_getElem hi]; exact e⟩
theorem getD_mem {A : List α} {i : Nat} (h : i < A.length) : A.getD i default ∈ A := by
  rw [List.getD_eq_getElem?_getD, List.getElem?_eq_getElem h]
  exact List.getElem_mem h
theorem getA (P A B Q : List α) (i : Nat) (h : i < A.length) : (P ++ (A ++ (B ++ Q))).getD (P.length + i) default = A.getD i default := by
  rw [List.getD_eq_getElem?_getD, List.getD_eq_getElem?_getD, List.getElem?_append_right (by omega), Nat.add_sub_cancel_left, List.getElem?_append_left h]
theorem getB (P A B Q : List α) (i : Nat) (h : i < B.length) : (P ++ (A ++ (B ++ Q))).getD (P.length + A.length + i) default = B.getD i default := by
  rw [List.getD_eq_getElem?_getD, List.getD_eq_getElem?_getD, List.getElem?_append_right (by omega), show P.length + A.length + i - P.length = A.length + i by omega, List.getElem?_append_right (by omega), Nat.add_sub_cancel_left, List.getElem?_append_left h]
theorem getD_take {A : List α} {i n : Nat} (h : i < n) : (A.take n).getD i default = A.getD i default := by
  rw [List.getD_eq_getElem?_getD, List.getD_eq_getElem?_getD, List.getElem?_take_of_lt h]
theorem getD_drop (A : List α) (i n : Nat) : (A.drop n).getD i default = A.getD (n + i) default := by
  rw [List.getD_eq_getElem?_getD, List.getD_eq_getElem?_getD, List.getElem?_drop]
variable [DecidableRel lt]
theorem symM_seg (c : α → α → Bool) (hT : ∀ {x y z : α}, lt x y → lt y z → lt x z) : ∀ (k : Nat) (P A B Q : List α), A.length + B.length ≤ k → 0 < A.length → 0 < B.length → A.Pairwise lt → B.Pairwise lt → (∀ y ∈ B, ∀ x ∈ A, (c y x = true ↔ lt y x)) →
    symM c k (P ++ (A ++ (B ++ Q))) P.length (P.length + A.length) (P.length + A.length + B.length) = P ++ (mrg lt A B ++ Q)
  | 0, P, A, B, Q, h, h0, _, _, _, _ => by omega
  | k + 1, P, A, B, Q, h, h0, h1, hA, hB, hc => by
    rw [symM]
    by_cases e1 : P.length + A.length - P.length = 1
    · rw [if_pos e1]
      obtain ⟨x, rfl⟩ : ∃ x, A = [x] := List.length_eq_one_iff.1 (by omega)
      have hx : (P ++ ([x] ++ (B ++ Q))).getD P.length default = x := by
        simp
      have gB : ∀ j, j < B.length → (P ++ ([x] ++ (B ++ Q))).getD (P.length + 1 + j) default = B.getD j default := fun j hj => getB P [x] B Q j hj
      have hm : ∀ j, j < B.length → (c (B.getD j default) x = true ↔ lt (B.getD j default) x) := fun j hj => hc _ (getD_mem hj) x (List.mem_cons_self ..)
      obtain ⟨i, hi⟩ : ∃ i, i = bs (fun h => c ((P ++ ([x] ++ (B ++ Q))).getD h default) ((P ++ ([x] ++ (B ++ Q))).getD P.length default)) (P.length + [x].length + B.length - (P.length + [x].length)) (P.length + [x].length) (P.length + [x].length + B.length) := ⟨_, rfl⟩
      have hb := bs_ok (fun h => c ((P ++ ([x] ++ (B ++ Q))).getD h default) ((P ++ ([x] ++ (B ++ Q))).getD P.length default)) (P.length + [x].length + B.length - (P.length + [x].length)) (P.length + [x].length) (P.length + [x].length + B.length) (by omega) (by omega) (by
        intro q d hq hd hr hp
        simp only [List.length_singleton] at hq hr
        obtain ⟨q', rfl⟩ : ∃ q', q = P.length + 1 + q' := ⟨q - (P.length + 1), by omega⟩
        obtain ⟨d', rfl⟩ : ∃ d', d = P.length + 1 + d' := ⟨d - (P.length + 1), by omega⟩
        simp only [hx] at hp ⊢
        rw [gB d' (by omega), hm d' (by omega)] at hp
        rw [gB q' (by omega), hm q' (by omega)]
        rcases asc lt hB (i := q') (j := d') (by omega) (by omega) with e | e
        · rw [e]; exact hp
        · exact hT e hp)
      rw [← hi] at hb ⊢
      obtain ⟨b1, b2, b3, b4⟩ := hb
      simp only [List.length_singleton, hx] at b1 b2 b3 b4
      obtain ⟨t, rfl⟩ : ∃ t, i = P.length + 1 + t := ⟨i - (P.length + 1), by omega⟩
      have ht : t ≤ B.length := by omega
      rw [show P.length + 1 + t - 1 - P.length = t by omega]
      have hu := up_seg (B.take t) P (B.drop t ++ Q) x
      rw [List.length_take, Nat.min_eq_left ht] at hu
      rw [show P ++ ([x] ++ (B ++ Q)) = P ++ x :: (B.take t ++ (B.drop t ++ Q)) by rw [← List.append_assoc (B.take t), List.take_append_drop]; rfl, hu]
      have hq := mrg_one lt x (B.take t) (B.drop t) (fun y hy => by
        obtain ⟨j, hj, rfl⟩ := mem_getD hy
        rw [List.length_take] at hj
        rw [getD_take (by omega), ← hm j (by omega), ← gB j (by omega)]
        exact b3 (P.length + 1 + j) (by omega) (by omega)) (fun y hy => by
        obtain ⟨j, hj, rfl⟩ := mem_getD hy
        rw [List.length_drop] at hj
        rw [getD_drop, ← hm (t + j) (by omega), ← gB (t + j) (by omega)]
        have := b4 (P.length + 1 + (t + j)) (by omega) (by omega)
        rw [this]
        decide)
      rw [List.take_append_drop] at hq
      rw [hq]
      simp
    · rw [if_neg e1]
      by_cases e2 : P.length + A.length + B.length - (P.length + A.length) = 1
      · rw [if_pos e2]
        obtain ⟨y, rfl⟩ : ∃ y, B = [y] := List.length_eq_one_iff.1 (by omega)
        have hy : (P ++ (A ++ ([y] ++ Q))).getD (P.length + A.length) default = y := by
          simp
        have gA : ∀ j, j < A.length → (P ++ (A ++ ([y] ++ Q))).getD (P.length + j) default = A.getD j default := fun j hj => getA P A [y] Q j hj
        have hm : ∀ j, j < A.length → (c y (A.getD j default) = true ↔ lt y (A.getD j default)) := fun j hj => hc y (List.mem_cons_self ..) _ (getD_mem hj)
        obtain ⟨i, hi⟩ : ∃ i, i = bs (fun h => !c ((P ++ (A ++ ([y] ++ Q))).getD (P.length + A.length) default) ((P ++ (A ++ ([y] ++ Q))).getD h default)) (P.length + A.length - P.length) P.length (P.length + A.length) := ⟨_, rfl⟩
        have hb := bs_ok (fun h => !c ((P ++ (A ++ ([y] ++ Q))).getD (P.length + A.length) default) ((P ++ (A ++ ([y] ++ Q))).getD h default)) (P.length + A.length - P.length) P.length (P.length + A.length) (by omega) (by omega) (by
          intro q d hq hd hr hp
          obtain ⟨q', rfl⟩ : ∃ q', q = P.length + q' := ⟨q - P.length, by omega⟩
          obtain ⟨d', rfl⟩ : ∃ d', d = P.length + d' := ⟨d - P.length, by omega⟩
          simp only [hy, Bool.not_eq_true'] at hp ⊢
          rw [gA d' (by omega)] at hp
          rw [gA q' (by omega)]
          cases hq2 : c y (A.getD q' default) with
          | false => rfl
          | true =>
            exfalso
            rw [hm q' (by omega)] at hq2
            have : lt y (A.getD d' default) := by
              rcases asc lt hA (i := q') (j := d') (by omega) (by omega) with e | e
              · rw [← e]; exact hq2
              · exact hT hq2 e
            rw [(hm d' (by omega)).2 this] at hp
            cases hp)
        rw [← hi] at hb ⊢
        obtain ⟨b1, b2, b3, b4⟩ := hb
        simp only [hy] at b3 b4
        obtain ⟨t, rfl⟩ : ∃ t, i = P.length + t := ⟨i - P.length, by omega⟩
        have ht : t ≤ A.length := by omega
        rw [show P.length + A.length - (P.length + t) = A.length - t by omega]
        have hd := down_seg (A.length - t) (A.drop t) (P ++ A.take t) Q y (by rw [List.length_drop])
        rw [List.length_append, List.length_take, Nat.min_eq_left ht, show P.length + t + (A.length - t) = P.length + A.length by omega] at hd
        rw [show P ++ (A ++ ([y] ++ Q)) = (P ++ A.take t) ++ (A.drop t ++ y :: Q) by rw [List.append_assoc, ← List.append_assoc (A.take t), List.take_append_drop]; rfl, hd]
        have hq := mrg_last lt y (A.take t) (A.drop t) (fun x hx => by
          obtain ⟨j, hj, rfl⟩ := mem_getD hx
          rw [List.length_take] at hj
          rw [getD_take (by omega), ← hm j (by omega), ← gA j (by omega)]
          have := b3 (P.length + j) (by omega) (by omega)
          rw [Bool.not_eq_true'] at this
          rw [this]
          decide) (fun x hx => by
          obtain ⟨j, hj, rfl⟩ := mem_getD hx
          rw [List.length_drop] at hj
          rw [getD_drop, ← hm (t + j) (by omega), ← gA (t + j) (by omega)]
          have := b4 (P.length + (t + j)) (by omega) (by omega)
          rwa [Bool.not_eq_false'] at this)
        rw [List.take_append_drop] at hq
        rw [hq]
        simp
      · rw [if_neg e2]
        have a2 : 2 ≤ A.length := by omega
        have b2 : 2 ≤ B.length := by omega
        dsimp only
        obtain ⟨mid, hmid⟩ : ∃ mid, mid = (P.length + (P.length + A.length + B.length)) / 2 := ⟨_, rfl⟩
        rw [← hmid]
        obtain ⟨lo, hlo⟩ : ∃ lo, lo = (if P.length + A.length > mid then mid + (P.length + A.length) - (P.length + A.length + B.length) else P.length) := ⟨_, rfl⟩
        obtain ⟨hi, hhi⟩ : ∃ hi, hi = (if P.length + A.length > mid then mid else P.length + A.length) := ⟨_, rfl⟩
        rw [← hlo, ← hhi]
        have hR : (P.length + A.length > mid ∧ lo + B.length = mid ∧ hi = mid) ∨ (P.length + A.length ≤ mid ∧ lo = P.length ∧ hi = P.length + A.length) := by
          by_cases hg : P.length + A.length > mid
          · rw [if_pos hg] at hlo hhi
            exact .inl ⟨hg, by omega, hhi⟩
          · rw [if_neg hg] at hlo hhi
            exact .inr ⟨by omega, hlo, hhi⟩
        clear hlo hhi
        have hA1 : ∀ i, i < A.length → (P ++ (A ++ (B ++ Q))).getD (P.length + i) default = A.getD i default := fun i h => getA P A B Q i h
        have hB1 : ∀ i, i < B.length → (P ++ (A ++ (B ++ Q))).getD (P.length + A.length + i) default = B.getD i default := fun i h => getB P A B Q i h
        have hm : ∀ i j, i < A.length → j < B.length → (c (B.getD j default) (A.getD i default) = true ↔ lt (B.getD j default) (A.getD i default)) := fun i j h g => hc _ (getD_mem g) _ (getD_mem h)
        have hP : ∀ q, lo ≤ q → q < hi → (!c ((P ++ (A ++ (B ++ Q))).getD (mid + (P.length + A.length) - 1 - q) default) ((P ++ (A ++ (B ++ Q))).getD q default)) = !c (B.getD (mid - 1 - q) default) (A.getD (q - P.length) default) := fun q h1 h2 => by
          have g1 := hA1 (q - P.length) (by omega)
          have g2 := hB1 (mid - 1 - q) (by omega)
          rw [show P.length + (q - P.length) = q by omega] at g1
          rw [show P.length + A.length + (mid - 1 - q) = mid + (P.length + A.length) - 1 - q by omega] at g2
          rw [g1, g2]
        obtain ⟨s, hs⟩ : ∃ s, s = bs (fun q => !c ((P ++ (A ++ (B ++ Q))).getD (mid + (P.length + A.length) - 1 - q) default) ((P ++ (A ++ (B ++ Q))).getD q default)) (P.length + A.length + B.length - P.length) lo hi := ⟨_, rfl⟩
        have hb := bs_ok (fun q => !c ((P ++ (A ++ (B ++ Q))).getD (mid + (P.length + A.length) - 1 - q) default) ((P ++ (A ++ (B ++ Q))).getD q default)) (P.length + A.length + B.length - P.length) lo hi (by omega) (by omega) (by
          intro q d hq hd hr hp
          rw [hP d (by omega) hr, Bool.not_eq_true'] at hp
          rw [hP q hq (by omega), Bool.not_eq_true']
          cases hq2 : c (B.getD (mid - 1 - q) default) (A.getD (q - P.length) default) with
          | false => rfl
          | true =>
            exfalso
            rw [hm _ _ (by omega) (by omega)] at hq2
            have f1 : lt (B.getD (mid - 1 - d) default) (A.getD (q - P.length) default) := by
              rcases asc lt hB (i := mid - 1 - d) (j := mid - 1 - q) (by omega) (by omega) with e | e
              · rw [e]; exact hq2
              · exact hT e hq2
            have f2 : lt (B.getD (mid - 1 - d) default) (A.getD (d - P.length) default) := by
              rcases asc lt hA (i := q - P.length) (j := d - P.length) (by omega) (by omega) with e | e
              · rw [← e]; exact f1
              · exact hT f1 e
            rw [(hm _ _ (by omega) (by omega)).2 f2] at hp
            cases hp)
        rw [← hs] at hb ⊢
        clear hs
        obtain ⟨q1, q2, q3, q4⟩ := hb
        obtain ⟨t, ht⟩ : ∃ t, t = s - P.length := ⟨_, rfl⟩
        obtain ⟨u, hu⟩ : ∃ u, u = mid - s := ⟨_, rfl⟩
        have t1 : t ≤ A.length := by omega
        have u1 : u ≤ B.length := by omega
        have lA1 : (A.take t).length = t := by rw [List.length_take, Nat.min_eq_left t1]
        have lB1 : (B.take u).length = u := by rw [List.length_take, Nat.min_eq_left u1]
        have lA2 : (A.drop t).length = A.length - t := List.length_drop
        have lB2 : (B.drop u).length = B.length - u := List.length_drop
        have hh1 : ∀ x ∈ A.take t, ∀ y ∈ B.drop u, ¬lt y x := fun x hx y hy hl => by
          obtain ⟨i, hi1, rfl⟩ := mem_getD hx
          obtain ⟨j, hj1, rfl⟩ := mem_getD hy
          rw [lA1] at hi1
          rw [lB2] at hj1
          rw [getD_take hi1, getD_drop] at hl
          have g := q3 (s - 1) (by omega) (by omega)
          rw [hP (s - 1) (by omega) (by omega), Bool.not_eq_true', show mid - 1 - (s - 1) = u by omega, show s - 1 - P.length = t - 1 by omega] at g
          have f1 : lt (B.getD u default) (A.getD i default) := by
            rcases asc lt hB (i := u) (j := u + j) (by omega) (by omega) with e | e
            · rw [e]; exact hl
            · exact hT e hl
          have f2 : lt (B.getD u default) (A.getD (t - 1) default) := by
            rcases asc lt hA (i := i) (j := t - 1) (by omega) (by omega) with e | e
            · rw [← e]; exact f1
            · exact hT f1 e
          rw [(hm _ _ (by omega) (by omega)).2 f2] at g
          cases g
        have hh2 : ∀ y ∈ B.take u, ∀ x ∈ A.drop t, lt y x := fun y hy x hx => by
          obtain ⟨j, hj1, rfl⟩ := mem_getD hy
          obtain ⟨i, hi1, rfl⟩ := mem_getD hx
          rw [lB1] at hj1
          rw [lA2] at hi1
          rw [getD_take hj1, getD_drop]
          have g := q4 s (Nat.le_refl _) (by omega)
          rw [hP s (by omega) (by omega), Bool.not_eq_false', show mid - 1 - s = u - 1 by omega, show s - P.length = t by omega, hm _ _ (by omega) (by omega)] at g
          have f1 : lt (B.getD j default) (A.getD t default) := by
            rcases asc lt hB (i := j) (j := u - 1) (by omega) (by omega) with e | e
            · rw [e]; exact g
            · exact hT e g
          rcases asc lt hA (i := t) (j := t + i) (by omega) (by omega) with e | e
          · rw [← e]; exact f1
          · exact hT f1 e
        have hmerge : mrg lt A B = mrg lt (A.take t) (B.take u) ++ mrg lt (A.drop t) (B.drop u) := by
          have := mrg_halves lt (A.take t) (A.drop t) (B.take u) (B.drop u) hh1 hh2
          rwa [List.take_append_drop, List.take_append_drop] at this
        have hAB : P ++ (A ++ (B ++ Q)) = P ++ (A.take t ++ (A.drop t ++ (B.take u ++ (B.drop u ++ Q)))) := by
          rw [← List.append_assoc (A.take t), List.take_append_drop, ← List.append_assoc (B.take u), List.take_append_drop]
        have s1 : (if s < P.length + A.length ∧ P.length + A.length < mid + (P.length + A.length) - s then rot (P ++ (A ++ (B ++ Q))) (P.length + A.length) (P.length + A.length + B.length - P.length) (P.length + A.length - s) (mid - s) else P ++ (A ++ (B ++ Q))) = P ++ (A.take t ++ (B.take u ++ (A.drop t ++ (B.drop u ++ Q)))) := by
          by_cases hr : s < P.length + A.length ∧ P.length + A.length < mid + (P.length + A.length) - s
          · rw [if_pos hr, hAB]
            have h := rot_seg (P.length + A.length + B.length - P.length) (P ++ A.take t) (A.drop t) (B.take u) (B.drop u ++ Q) (by rw [lA2, lB1]; omega) (by rw [lA2]; omega) (by rw [lB1]; omega)
            rw [lA2, lB1, List.length_append, lA1, show P.length + t + (A.length - t) = P.length + A.length by omega, show A.length - t = P.length + A.length - s by omega, hu] at h
            rw [List.append_assoc, List.append_assoc] at h
            rw [hu]
            exact h
          · rw [if_neg hr, hAB]
            by_cases h3 : s < P.length + A.length
            · have : u = 0 := by omega
              rw [this, List.take_zero]
              rfl
            · have : A.drop t = [] := List.drop_eq_nil_of_le (by omega)
              rw [this]
              rfl
        rw [s1]
        have s2 : (if P.length < s ∧ s < mid then symM c k (P ++ (A.take t ++ (B.take u ++ (A.drop t ++ (B.drop u ++ Q))))) P.length s mid else P ++ (A.take t ++ (B.take u ++ (A.drop t ++ (B.drop u ++ Q))))) = P ++ (mrg lt (A.take t) (B.take u) ++ (A.drop t ++ (B.drop u ++ Q))) := by
          by_cases hr : P.length < s ∧ s < mid
          · rw [if_pos hr]
            have h := symM_seg c hT k P (A.take t) (B.take u) (A.drop t ++ (B.drop u ++ Q)) (by rw [lA1, lB1]; omega) (by rw [lA1]; omega) (by rw [lB1]; omega) (hA.sublist (List.take_sublist _ _)) (hB.sublist (List.take_sublist _ _)) (fun y hy x hx => hc y (List.mem_of_mem_take hy) x (List.mem_of_mem_take hx))
            rw [lA1, lB1, show P.length + t = s by omega, show s + u = mid by omega] at h
            exact h
          · rw [if_neg hr]
            by_cases h3 : P.length < s
            · have : u = 0 := by omega
              rw [this, List.take_zero, mrg_nil]
              rfl
            · have : t = 0 := by omega
              rw [this, List.take_zero, nil_mrg]
              rfl
        rw [s2, hmerge]
        by_cases hr : mid < mid + (P.length + A.length) - s ∧ mid + (P.length + A.length) - s < P.length + A.length + B.length
        · rw [if_pos hr]
          have lM : (P ++ mrg lt (A.take t) (B.take u)).length = mid := by
            rw [List.length_append, (mrg_perm lt _ _).length_eq, List.length_append, lA1, lB1]
            omega
          have h := symM_seg c hT k (P ++ mrg lt (A.take t) (B.take u)) (A.drop t) (B.drop u) Q (by rw [lA2, lB2]; omega) (by rw [lA2]; omega) (by rw [lB2]; omega) (hA.sublist (List.drop_sublist _ _)) (hB.sublist (List.drop_sublist _ _)) (fun y hy x hx => hc y (List.mem_of_mem_drop hy) x (List.mem_of_mem_drop hx))
          rw [lM, lA2, lB2, show mid + (A.length - t) = mid + (P.length + A.length) - s by omega, show mid + (P.length + A.length) - s + (B.length - u) = P.length + A.length + B.length by omega, List.append_assoc, List.append_assoc] at h
          rw [h, List.append_assoc]
        · rw [if_neg hr, List.append_assoc]
          by_cases h3 : mid < mid + (P.length + A.length) - s
          · have : B.drop u = [] := List.drop_eq_nil_of_le (by omega)
            rw [this, mrg_nil]
            rfl
          · have : A.drop t = [] := List.drop_eq_nil_of_le (by omega)
            rw [this, nil_mrg]
            rfl
end
end Go.Proofs.Ytomanpmffjkkgaa.S3
namespace Go.Proofs.Ytomanpmffjkkgaa.S4
open Go.Proofs.Ytomanpmffjkkgaa.S1 Go.Proofs.Ytomanpmffjkkgaa.S2 Go.Proofs.Ytomanpmffjkkgaa.S3
section
variable {α : Type} (lt : α → α → Prop) [DecidableRel lt]
def insL (X : List α) : List α := X.foldl (fun acc y => mrg lt acc [y]) []
theorem insL_snoc (X : List α) (y : α) : insL lt (X ++ [y]) = mrg lt (insL lt X) [y] := by
  unfold insL
  rw [List.foldl_append]
  rfl
theorem insL_perm : ∀ (n : Nat) (X : List α), X.length = n → (insL lt X).Perm X
  | 0, X, h => by rw [List.length_eq_zero_iff.1 h]; exact List.Perm.refl _
  | n + 1, X, h => by
    obtain ⟨X', y, rfl⟩ : ∃ X' y, X = X' ++ [y] := ⟨X.dropLast, X.getLast (by intro e; rw [e] at h; cases h), (List.dropLast_concat_getLast _).symm⟩
    rw [insL_snoc]
    exact (mrg_perm lt _ _).trans ((insL_perm n X' (by simpa using h)).append_right _)
theorem insL_pw (hT : ∀ {x y z : α}, lt x y → lt y z → lt x z) : ∀ (n : Nat) (X : List α), X.length = n → X.Pairwise (fun x y => lt y x ∨ lt x y) → (insL lt X).Pairwise lt
  | 0, X, h, _ => by rw [List.length_eq_zero_iff.1 h]; exact List.Pairwise.nil
  | n + 1, X, h, hp => by
    obtain ⟨X', y, rfl⟩ : ∃ X' y, X = X' ++ [y] := ⟨X.dropLast, X.getLast (by intro e; rw [e] at h; cases h), (List.dropLast_concat_getLast _).symm⟩
    have h' : X'.length = n := by simpa using h
    have hq := List.pairwise_append.1 hp
    rw [insL_snoc]
    refine mrg_pw lt hT _ _ (insL_pw hT n X' h' hq.1) (List.pairwise_singleton _ _) fun x hx b hb => ?_
    rw [List.mem_singleton.1 hb]
    exact hq.2.2 x ((insL_perm lt n X' h').mem_iff.1 hx) y (List.mem_cons_self ..)
end
section
variable {α : Type} [Inhabited α]
def insJ (c : α → α → Bool) (a : Nat) : Nat → List α → List α
  | 0, l => l
  | n + 1, l => if c (l.getD (a + n + 1) default) (l.getD (a + n) default) = true then insJ c a n (swap1 l (a + n + 1) (a + n)) else l
def insI (c : α → α → Bool) (a : Nat) : Nat → List α → List α
  | 0, l => l
  | r + 1, l => insJ c a (r + 1) (insI c a r l)
def insSort (c : α → α → Bool) (l : List α) (a b : Nat) : List α := insI c a (b - a - 1) l
def stb (c : α → α → Bool) (l : List α) (n : Nat) : List α :=
  if n < 20 then insSort c l 0 n
  else
    let l1 := insSort c l 0 20
    if n < 40 then (if 20 < n then symM c n (insSort c l1 20 n) 0 20 n else insSort c l1 20 n)
    else symM c 40 (insSort c (insSort c l1 20 40) 40 n) 0 20 40
variable (lt : α → α → Prop) [DecidableRel lt]
theorem insJ_seg (c : α → α → Bool) (hT : ∀ {x y z : α}, lt x y → lt y z → lt x z) : ∀ (n : Nat) (A P Q : List α) (y : α), A.length = n → A.Pairwise lt → (∀ x ∈ A, (c y x = true ↔ lt y x)) → insJ c P.length n (P ++ (A ++ y :: Q)) = P ++ (mrg lt A [y] ++ Q)
  | 0, A, P, Q, y, h, _, _ => by
    rw [List.length_eq_zero_iff.1 h, nil_mrg]
    rfl
  | n + 1, A, P, Q, y, h, hA, hc => by
    obtain ⟨A', x, rfl⟩ : ∃ A' x, A = A' ++ [x] := ⟨A.dropLast, A.getLast (by intro e; rw [e] at h; cases h), (List.dropLast_concat_getLast _).symm⟩
    have h' : A'.length = n := by simpa using h
    have e1 : P ++ ((A' ++ [x]) ++ y :: Q) = (P ++ A') ++ x :: ([] ++ y :: Q) := by simp
    have gx : (P ++ ((A' ++ [x]) ++ y :: Q)).getD (P.length + n) default = x := by
      rw [e1, ← h', ← List.length_append, List.getD_eq_getElem?_getD, List.getElem?_append_right (Nat.le_refl _), Nat.sub_self]
      rfl
    have gy : (P ++ ((A' ++ [x]) ++ y :: Q)).getD (P.length + n + 1) default = y := by
      rw [e1, ← h', ← List.length_append, List.getD_eq_getElem?_getD, List.getElem?_append_right (by omega), Nat.add_sub_cancel_left]
      rfl
    have hx : c y x = true ↔ lt y x := hc x (by simp)
    have hpw := List.pairwise_append.1 hA
    rw [insJ, gx, gy]
    by_cases hl : lt y x
    · rw [if_pos (hx.2 hl), swap1_comm _ _ _ (by omega), e1]
      have hs := swap1_seg (P ++ A') [] Q x y
      rw [List.length_append, h', List.length_nil, Nat.add_zero] at hs
      rw [hs]
      have ih := insJ_seg c hT n A' P ([x] ++ Q) y h' hpw.1 (fun z hz => hc z (List.mem_append_left _ hz))
      rw [show P ++ A' ++ y :: ([] ++ x :: Q) = P ++ (A' ++ y :: ([x] ++ Q)) by simp, ih]
      have hm := mrg_halves lt A' [x] [y] [] (fun _ _ b hb => by cases hb) (fun b hb a ha => by rw [List.mem_singleton.1 ha, List.mem_singleton.1 hb]; exact hl)
      rw [List.append_nil, mrg_nil] at hm
      rw [hm]
      simp
    · rw [if_neg fun g => hl (hx.1 g)]
      have hm := mrg_last lt y (A' ++ [x]) [] (fun z hz g => by
        rcases List.mem_append.1 hz with hz | hz
        · exact hl (hT g (hpw.2.2 z hz x (List.mem_cons_self ..)))
        · rw [List.mem_singleton.1 hz] at g
          exact hl g) (fun z hz => by cases hz)
      rw [List.append_nil] at hm
      rw [hm]
      simp
theorem insI_seg (c : α → α → Bool) (hT : ∀ {x y z : α}, lt x y → lt y z → lt x z) : ∀ (r : Nat) (X P Q : List α), X.length = r + 1 → X.Pairwise (fun x y => lt y x ∨ lt x y) → X.Pairwise (fun x y => (c y x = true ↔ lt y x)) → insI c P.length r (P ++ (X ++ Q)) = P ++ (insL lt X ++ Q)
  | 0, X, P, Q, h, _, _ => by
    obtain ⟨x, rfl⟩ : ∃ x, X = [x] := List.length_eq_one_iff.1 (by omega)
    simp [insI, insL, mrg]
  | r + 1, X, P, Q, h, hp, hc => by
    obtain ⟨X', y, rfl⟩ : ∃ X' y, X = X' ++ [y] := ⟨X.dropLast, X.getLast (by intro e; rw [e] at h; cases h), (List.dropLast_concat_getLast _).symm⟩
    have h' : X'.length = r + 1 := by simpa using h
    have hq := List.pairwise_append.1 hp
    have hd := List.pairwise_append.1 hc
    have ih := insI_seg c hT r X' P ([y] ++ Q) h' hq.1 hd.1
    have hpm := insL_perm lt (r + 1) X' h'
    rw [insI, show P ++ ((X' ++ [y]) ++ Q) = P ++ (X' ++ ([y] ++ Q)) by simp, ih]
    have hj := insJ_seg lt c hT (r + 1) (insL lt X') P Q y (by rw [hpm.length_eq, h']) (insL_pw lt hT (r + 1) X' h' hq.1) (fun x hx => hd.2.2 x (hpm.mem_iff.1 hx) y (List.mem_cons_self ..))
    rw [insL_snoc]
    exact hj
theorem insSort_seg (c : α → α → Bool) (hT : ∀ {x y z : α}, lt x y → lt y z → lt x z) (X P Q : List α) (hp : X.Pairwise (fun x y => lt y x ∨ lt x y)) (hc : X.Pairwise (fun x y => (c y x = true ↔ lt y x))) : insSort c (P ++ (X ++ Q)) P.length (P.length + X.length) = P ++ (insL lt X ++ Q) := by
  unfold insSort
  rw [show P.length + X.length - P.length - 1 = X.length - 1 by omega]
  cases X with
  | nil => rfl
  | cons x xs => exact insI_seg lt c hT _ (x :: xs) P Q (by simp) hp hc
theorem stb_ok (c : α → α → Bool) (hT : ∀ {x y z : α}, lt x y → lt y z → lt x z) (X : List α) (hn : X.length ≤ 40) (hp : X.Pairwise (fun x y => lt y x ∨ lt x y)) (hc : X.Pairwise (fun x y => (c y x = true ↔ lt y x))) :
    (stb c X X.length).Perm X ∧ (stb c X X.length).Pairwise lt := by
  have whole := insSort_seg lt c hT X [] [] hp hc
  simp only [List.nil_append, List.append_nil, List.length_nil, Nat.zero_add] at whole
  unfold stb
  by_cases h20 : X.length < 20
  · rw [if_pos h20, whole]
    exact ⟨insL_perm lt _ X rfl, insL_pw lt hT _ X rfl hp⟩
  · rw [if_neg h20]
    dsimp only
    obtain ⟨A, B, rfl, hA⟩ : ∃ A B, X = A ++ B ∧ A.length = 20 := ⟨X.take 20, X.drop 20, (List.take_append_drop _ _).symm, by rw [List.length_take]; omega⟩
    have hpp := List.pairwise_append.1 hp
    have hcc := List.pairwise_append.1 hc
    have sA := insSort_seg lt c hT A [] B hpp.1 hcc.1
    simp only [List.nil_append, List.length_nil, Nat.zero_add] at sA
    rw [hA] at sA
    have pA := insL_perm lt _ A rfl
    have lA : (insL lt A).length = 20 := by rw [pA.length_eq, hA]
    have sB := insSort_seg lt c hT B (insL lt A) [] hpp.2.1 hcc.2.1
    rw [List.append_nil, List.append_nil, lA] at sB
    have pB := insL_perm lt _ B rfl
    have hN : (A ++ B).length = 20 + B.length := by rw [List.length_append, hA]
    have wA := insL_pw lt hT _ A rfl hpp.1
    have wB := insL_pw lt hT _ B rfl hpp.2.1
    rw [hN] at hn h20 ⊢
    have merged : 0 < B.length → ∀ k, 20 + B.length ≤ k → (symM c k (insL lt A ++ insL lt B) 0 20 (20 + B.length)).Perm (A ++ B) ∧ (symM c k (insL lt A ++ insL lt B) 0 20 (20 + B.length)).Pairwise lt := fun h0 k hk => by
      have hm := symM_seg lt c hT k [] (insL lt A) (insL lt B) [] (by rw [lA, pB.length_eq]; exact hk) (by omega) (by rw [pB.length_eq]; exact h0) wA wB (fun y hy x hx => hcc.2.2 x (pA.mem_iff.1 hx) y (pB.mem_iff.1 hy))
      simp only [List.nil_append, List.append_nil, List.length_nil, Nat.zero_add] at hm
      rw [lA, pB.length_eq] at hm
      rw [hm]
      exact ⟨(mrg_perm lt _ _).trans (pA.append pB), mrg_pw lt hT _ _ wA wB fun x hx y hy => hpp.2.2 x (pA.mem_iff.1 hx) y (pB.mem_iff.1 hy)⟩
    rw [sA]
    by_cases h40 : 20 + B.length < 40
    · rw [if_pos h40, sB]
      by_cases h0 : 20 < 20 + B.length
      · rw [if_pos h0]
        exact merged (by omega) _ (Nat.le_refl _)
      · rw [if_neg h0]
        have : B = [] := List.length_eq_zero_iff.1 (by omega)
        rw [this]
        refine ⟨pA.append_right _, ?_⟩
        rw [show insL lt ([] : List α) = [] from rfl, List.append_nil]
        exact wA
    · rw [if_neg h40]
      have hB : B.length = 20 := by omega
      have e40 : insSort c (insL lt A ++ B) 20 40 = insL lt A ++ insL lt B := by
        rw [hB] at sB
        exact sB
      have e0 : ∀ l : List α, insSort c l 40 (20 + B.length) = l := fun l => by
        unfold insSort
        rw [hB]
        rfl
      rw [e40, e0]
      have := merged (by omega) 40 (by omega)
      rw [hB] at this
      exact this
end
end Go.Proofs.Ytomanpmffjkkgaa.S4
