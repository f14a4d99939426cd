/- What the law FnExactShares leans on, cut out of this repo's own texts by a program of this repo: plain functions, the walks that tie the Go calls to them, the law over lists and numbers, and the row. -/
import Derived.Test.YtpnejhelandclaaZFnExactShares3
import Derived.RowKit
import Derived.IntWalk
import Derived.Lib.Mul64
import Derived.Laws.BitsLemmas
namespace Go.Proofs.Ytpnejhelandclaa.P
end Go.Proofs.Ytpnejhelandclaa.P
namespace Go.Proofs.Ytpnejhelandclaa.EV
end Go.Proofs.Ytpnejhelandclaa.EV
namespace Go.Proofs.Ytpnejhelandclaa.I1
end Go.Proofs.Ytpnejhelandclaa.I1
namespace Go.Proofs.Ytpnejhelandclaa.TI
end Go.Proofs.Ytpnejhelandclaa.TI
namespace Go.Proofs.Ytpnejhelandclaa.L1
end Go.Proofs.Ytpnejhelandclaa.L1
namespace Go.Proofs.Ytpnejhelandclaa.A2
end Go.Proofs.Ytpnejhelandclaa.A2
namespace Go.Proofs.Ytpnejhelandclaa.W1
end Go.Proofs.Ytpnejhelandclaa.W1
namespace Go.Proofs.Ytpnejhelandclaa.S1
end Go.Proofs.Ytpnejhelandclaa.S1
namespace Go.Proofs.Ytpnejhelandclaa.S2
end Go.Proofs.Ytpnejhelandclaa.S2
namespace Go.Proofs.Ytpnejhelandclaa.S3
end Go.Proofs.Ytpnejhelandclaa.S3
namespace Go.Proofs.Ytpnejhelandclaa.S4
end Go.Proofs.Ytpnejhelandclaa.S4
namespace Go.Proofs.Ytpnejhelandclaa.S5
end Go.Proofs.Ytpnejhelandclaa.S5
namespace Go.Proofs.Ytpnejhelandclaa.W2
end Go.Proofs.Ytpnejhelandclaa.W2
namespace Go.Proofs.Ytpnejhelandclaa.S7
end Go.Proofs.Ytpnejhelandclaa.S7
namespace Go.Proofs.Ytpnejhelandclaa.P
open Go.RowKit Go.Proofs.YtpnejhelandclaaW.PrintWords Go.Proofs.YtpnejhelandclaaW.PrintLast Go.Proofs.YtpnejhelandclaaW.PrintMore
attribute [local go_sem] max2_int min2_int max_two min_two max_three min_three max_four min_four   -- for this text's walks alone
set_option linter.unusedVariables false
set_option linter.unusedSimpArgs false
mutual
def spec_Shares.j0 : Nat → Int → List Int → List Int → Bool → Option (List Int × Bool)
 | 0, _, _, _, _ => none
 | k + 1, x0, x1, x6, x22 => if x22 = true then (some (x6, false)) else (spec_Shares.l0 k x0 x1 x6 x0 0)
def spec_Shares.l0 : Nat → Int → List Int → List Int → Int → Int → Option (List Int × Bool)
 | 0, _, _, _, _, _ => none
 | k + 1, x0, x1, x6, x7, x8 => if x8 < (x1.length : Int) then ((spec_ShareQuota.f k x0 x1 x8).bind fun bt268 => (if x6.length < 17592186044416 then (spec_Shares.l0 k x0 x1 (x6 ++ [bt268.1]) (wrap64 (x7 - bt268.1)) (wrap64 (x8 + 1))) else (none))) else ((spec_ShareOrder.f k x0 x1).bind fun t274 => (spec_Shares.l1 k x6 x7 t274 0))
def spec_Shares.l1 : Nat → List Int → Int → List Int → Int → Option (List Int × Bool)
 | 0, _, _, _, _ => none
 | k + 1, x6, x7, x12, x13 => if x13 < x7 then (if 0 ≤ x13 then (if x13 < (x12.length : Int) then (if 0 ≤ (rd x12 x13) then (if (rd x12 x13) < (x6.length : Int) then (spec_Shares.l1 k (x6.set ((rd x12 x13) : Int).toNat (wrap64 ((rd x6 (rd x12 x13)) + 1))) x7 x12 (wrap64 (x13 + 1))) else (none)) else (none)) else (none)) else (none)) else (some (x6, true))
end
def spec_Shares.f (k : Nat) (a0 : Int) (l1 : List Int) : Option (List Int × Bool) := (some (([] : List Int) : List Int)).bind fun y263 => ((spec_WeightsOk.f k l1).bind fun t266 => (if t266 = true then ((spec_l1Some.f a0 0).bind fun t267 => (spec_Shares.j0 k a0 l1 y263 (!t267))) else (spec_Shares.j0 k a0 l1 y263 true)))
def spec_Shares.T15 : Bool × List (List Nat × List Nat) := (true, [([], []), ([], []), ([], []), ([1, 2], [1, 2]), ([3], [3]), ([], []), ([], []), ([], []), ([6, 7], [6, 7]), ([8], [8]), ([5, 9], [5, 9]), ([10], [10]), ([11], [11]), ([0, 4, 0, 1, 2, 3, 4, 5, 6, 7, 8, 9, 10, 11, 12], [0, 4]), ([13, 12, 0, 1, 2, 3, 4, 5, 6, 7, 8, 9, 10, 11, 12], [12, 13])])
def spec_Shares.B15 : List Nat := [0, 0, 0, 6, 14, 0, 0, 0, 192, 448, 992, 2016, 4064, 8191, 16383]
theorem spec_Shares.tab15 : rtab .any (opsOf Try.f19 15) = spec_Shares.T15 := by kernel_rfl
theorem spec_Shares.bits15 : waitsOk spec_Shares.T15.2 spec_Shares.B15 = true := by kernel_rfl
set_option maxHeartbeats 8000000 in
set_option maxRecDepth 100000 in
theorem spec_Shares.calls (k : Nat) (a0 : Int) (A1 : Option Addr) (c1 : Nat) (l1 : List Int) (r1 : List Int) (r2 : Bool) (w : World) (hr1 : Kd.C (Kd.int .i64) w A1 l1.length l1) (hc1 : l1.length ≤ c1) (h : spec_Shares.f k a0 l1 = some (r1, r2)) :
 Calls Try.prog 19 #[.int .i64 a0, .slice A1 l1.length c1] w fun e w' => ∃ v0_ : Value, e = .returned (.tuple #[v0_, .bool r2]) ∧ Kd.R (Kd.int .i64) 3 w' w.heap.size (fun _ => True) v0_ r1 ∧ Below w.heap.size w w' := by
 have HR1 := Aside0.mk hr1
 have HC1 := Aside0.mk hc1
 clear hr1 hc1
 have HB := Aside0.mk (Below.refl w.heap.size w)
 have H : ((some (([] : List Int) : List Int)).bind fun y263 => ((spec_WeightsOk.f k l1).bind fun t266 => (if t266 = true then ((spec_l1Some.f a0 0).bind fun t267 => (spec_Shares.j0 k a0 l1 y263 (!t267))) else (spec_Shares.j0 k a0 l1 y263 true)))) = some (r1, r2) := h
 clear h
 obtain ⟨y263, hy263⟩ : ∃ y_ : List Int, y_ = (([] : List Int)) := ⟨_, rfl⟩
 replace H : ((spec_WeightsOk.f k l1).bind fun t266 => (if t266 = true then ((spec_l1Some.f a0 0).bind fun t267 => (spec_Shares.j0 k a0 l1 y263 (!t267))) else (spec_Shares.j0 k a0 l1 y263 true))) = some (r1, r2) := by first | (rw [hy263]; with_reducible exact H) | (have H2_ := (Option.bind_some _ _).symm.trans H; rw [hy263]; with_reducible exact H2_) | (have H2_ := (Option.bind_some _ _).symm.trans H; with_reducible exact H2_) | with_reducible exact H | (rw [hy263]; exact H) | exact H
 have Ny263 := Aside0.mk hy263
 clear hy263
 have HC3 := Aside0.mk H
 clear H
 go_enter Try.func19, Try.ntmps19
 go_upto_region 2 with (first | ((with_reducible refine gate_dst (N := 14) rfl ?_); refine Kd.R_lit (Kd.int .i64) _ 3 ?hg (N := 14) ?hd (xs := ([] : List Int)) (inner := []) (ok := fun _ => True) (okp := fun _ => True) ?hr ?hp (fun _ hk => hk) trivial (Below.refl _ _) (Nat.le_refl _) (by simp) ?_; (case hd => rfl); (case hg => rfl); (case hr => first | (go_simp; done) | (go_simp; rfl)); (case hp => exact (Reps.none _ _)); intro v264 w4 ho5 hb hg_ hnew_; clear hg_ hnew_; (first | rw [← Ny263.out] at ho5 | (simp only [Int.reduceToNat] at ho5; rw [← Ny263.out] at ho5)); have n0_ := Aside0.mk (Kd.R_lower ho5 (below_size (by repeat (first | (with_reducible first | exact HB.out | apply below_alloc | apply pw_below_drewN | apply below_drew1) | exact HB.out)))); have n1_ := Aside0.mk (below_step (by repeat (first | (with_reducible first | exact HB.out | apply below_alloc | apply pw_below_drewN | apply below_drew1) | exact HB.out)) hb); clear HB; have HO265 := n0_; have HB := n1_; clear n0_ n1_; clear hb ho5))
 (try simp only [Act.put, List.setIfInBounds_toArray, List.set_cons_zero, List.set_cons_succ])
 go_cut [22] (fun v22 wc => ∃ (kq : Nat) (x22_2 : Bool), v22 = .bool x22_2 ∧ Aside0 (spec_Shares.j0 kq a0 l1 y263 x22_2 = some (r1, r2)) ∧ Aside0 (kq ≤ k) ∧ Aside0 (Kd.R (Kd.int .i64) 3 wc w.heap.size (fun _ => True) v264 y263) ∧ Aside0 (Below w.heap.size w wc))
 case first =>
  have H := HC3.out
  clear HC3
  replace H := Option.bind_eq_some_iff.mp H
  obtain ⟨t266, A60, H⟩ := H
  replace H : (if t266 = true then ((spec_l1Some.f a0 0).bind fun t267 => (spec_Shares.j0 k a0 l1 y263 (!t267))) else (spec_Shares.j0 k a0 l1 y263 true)) = some (r1, r2) := H
  have A6 := Aside0.mk A60
  clear A60
  by_cases c7 : t266 = true
  ·
   subst c7
   have H1 : ((spec_l1Some.f a0 0).bind fun t267 => (spec_Shares.j0 k a0 l1 y263 (!t267))) = some (r1, r2) := by rw [if_pos rfl] at H; exact H
   clear H
   have H := H1
   clear H1
   replace H := Option.bind_eq_some_iff.mp H
   obtain ⟨t267, A80, H⟩ := H
   replace H : (spec_Shares.j0 k a0 l1 y263 (!t267)) = some (r1, r2) := H
   have A8 := Aside0.mk A80
   clear A80
   have H' := Aside0.mk H
   clear H
   go_wp2_with (first | ((with_reducible refine gate_callee (f := 9) rfl ?_); refine goesL_ (some 16) rfl rfl Try.func9 (by kernel_rfl) rfl #[.slice A1 l1.length c1] rfl (by (try simp only [List.map_toArray, List.map_cons, List.map_nil]); first | done | rfl | (simp only [List.length_drop, List.length_take]; rfl)) ?_; (with_reducible refine (spec_WeightsOk.calls k _ _ l1 true _ ?side1 ?side2 A6.out).mono ?_); (case side1 => repeat (first | exact (Kd.C_below HR1.out HB.out) | (with_reducible refine Kd.C_alloc ?_ _) | (with_reducible refine Kd.C_drewN ?_ _) | (with_reducible refine Kd.C_drew ?_))); (case side2 => exact HC1.out); rintro e w' ⟨rfl, ⟨nd, rfl⟩⟩; refine ⟨_, rfl, ?_⟩) | (go_at_call 27; (with_reducible refine (spec_l1Some.calls a0 0 t267 _ A8.out).mono ?_); rintro e w' ⟨rfl, ⟨nd, rfl⟩⟩))
   go_meet
   case rel => exact ⟨_, (!t267), (by first | rfl | (simp; done) | (simp [*]; done)), H', ⟨by first | omega | exact Nat.le_refl _⟩, ⟨by (with_reducible repeat (first | apply Kd.R_alloc | apply Kd.R_drewN | apply Kd.R_drew)); exact HO265.out⟩, ⟨by repeat (first | (with_reducible first | exact HB.out | apply below_alloc | apply pw_below_drewN | apply below_drew1) | exact HB.out)⟩⟩
  ·
   replace c7 := Bool.eq_false_iff.mpr c7
   subst c7
   have H1 : (spec_Shares.j0 k a0 l1 y263 true) = some (r1, r2) := by rw [if_neg (show ¬ (false = true) by decide)] at H; exact H
   clear H
   have H := H1
   clear H1
   have H' := Aside0.mk H
   clear H
   go_wp2_with (first | ((with_reducible refine gate_callee (f := 9) rfl ?_); refine goesL_ (some 16) rfl rfl Try.func9 (by kernel_rfl) rfl #[.slice A1 l1.length c1] rfl (by (try simp only [List.map_toArray, List.map_cons, List.map_nil]); first | done | rfl | (simp only [List.length_drop, List.length_take]; rfl)) ?_; (with_reducible refine (spec_WeightsOk.calls k _ _ l1 false _ ?side1 ?side2 A6.out).mono ?_); (case side1 => repeat (first | exact (Kd.C_below HR1.out HB.out) | (with_reducible refine Kd.C_alloc ?_ _) | (with_reducible refine Kd.C_drewN ?_ _) | (with_reducible refine Kd.C_drew ?_))); (case side2 => exact HC1.out); rintro e w' ⟨rfl, ⟨nd, rfl⟩⟩; refine ⟨_, rfl, ?_⟩))
   go_meet
   case rel => exact ⟨_, (true), (by first | rfl | (simp; done) | (simp [*]; done)), H', ⟨by first | omega | exact Nat.le_refl _⟩, ⟨by (with_reducible repeat (first | apply Kd.R_alloc | apply Kd.R_drewN | apply Kd.R_drew)); exact HO265.out⟩, ⟨by repeat (first | (with_reducible first | exact HB.out | apply below_alloc | apply pw_below_drewN | apply below_drew1) | exact HB.out)⟩⟩
 case rest =>
  clear HC3
  try clear c1
  try clear p2
  try clear c7
  obtain ⟨kq, x22_2, rfl, HA, HJ2, HO_6, HB⟩ := hcut
  cases kq with
  | zero => exact absurd HA.out (by simp [spec_Shares.j0])
  | succ kj2 =>
   have H := HA.out
   clear HA
   simp only [spec_Shares.j0] at H
   by_cases c9 : x22_2 = true
   ·
    subst c9
    have H1 : (some (y263, false)) = some (r1, r2) := by rw [if_pos rfl] at H; exact H
    clear H
    have H := H1
    clear H1
    simp only [Option.some.injEq, Prod.mk.injEq] at H
    obtain ⟨rfl, rfl⟩ := H
    go_wp2
    go_ret2
    exact ⟨_, by first | rfl | (simp [errW_none, errW_some] <;> rfl) | (simp [*, errW_none, errW_some] <;> rfl), by (with_reducible repeat (first | apply Kd.R_alloc | apply Kd.R_drewN | apply Kd.R_drew)); exact HO_6.out, by repeat (first | (with_reducible first | exact HB.out | apply below_alloc | apply pw_below_drewN | apply below_drew1) | exact HB.out)⟩
   ·
    replace c9 := Bool.eq_false_iff.mpr c9
    subst c9
    have H1 : (spec_Shares.l0 kj2 a0 l1 y263 a0 0) = some (r1, r2) := by rw [if_neg (show ¬ (false = true) by decide)] at H; exact H
    clear H
    have H := H1
    clear H1
    have H' := Aside0.mk H
    clear H
    go_wp2
    go_loopg [6, 7, 8] kj2 (fun kq v6 v7 v8 w' => ∃ (x6_2 : List Int) (x7_2 : Int) (x8_2 : Int), v7 = .int .i64 x7_2 ∧ v8 = .int .i64 x8_2 ∧ Aside0 (spec_Shares.l0 kq a0 l1 x6_2 x7_2 x8_2 = some (r1, r2)) ∧ Aside0 (kq ≤ kj2) ∧ Aside0 (Kd.R (Kd.int .i64) 3 w' w.heap.size (fun _ => True) v6 x6_2) ∧ Aside0 (Below w.heap.size w w'))
    case atStart => exact ⟨(y263), (a0), (0), (by first | rfl | (simp; done) | (simp [*]; done)), (by first | rfl | (simp; done) | (simp [*]; done)), H', ⟨Nat.le_refl _⟩, ⟨by (with_reducible repeat (first | apply Kd.R_alloc | apply Kd.R_drewN | apply Kd.R_drew)); exact HO_6.out⟩, ⟨by repeat (first | (with_reducible first | exact HB.out | apply below_alloc | apply pw_below_drewN | apply below_drew1) | exact HB.out)⟩⟩
    case round =>
     clear H'
     try clear c1
     try clear p2
     try clear c7
     try clear c9
     try clear p2
     obtain ⟨x6_2, x7_2, x8_2, rfl, rfl, HA, HK2, HO_6, HB⟩ := hrel
     cases gk with
     | zero => exact absurd HA.out (by simp [spec_Shares.l0])
     | succ k2 =>
      have H := HA.out
      clear HA
      simp only [spec_Shares.l0] at H
      by_cases c10 : x8_2 < (l1.length : Int)
      ·
       rw [if_pos c10] at H
       have c10b0 : decide (x8_2 < (l1.length : Int)) = true := decide_eq_true c10
       clear c10
       replace H := Option.bind_eq_some_iff.mp H
       obtain ⟨⟨t268, t269, t270⟩, A110, H⟩ := H
       replace H : (if x6_2.length < 17592186044416 then (spec_Shares.l0 k2 a0 l1 (x6_2 ++ [t268]) (wrap64 (x7_2 - t268)) (wrap64 (x8_2 + 1))) else (none)) = some (r1, r2) := H
       have A11 := Aside0.mk A110
       clear A110
       by_cases c12 : x6_2.length < 17592186044416
       ·
        rw [if_pos c12] at H
        have LMc12 := Aside0.mk c12
        clear c12
        obtain ⟨y271, hy271⟩ : ∃ y_ : List Int, y_ = (x6_2 ++ [t268]) := ⟨_, rfl⟩
        replace H : (spec_Shares.l0 k2 a0 l1 y271 (wrap64 (x7_2 - t268)) (wrap64 (x8_2 + 1))) = some (r1, r2) := by first | (rw [hy271]; with_reducible exact H) | (have H2_ := (Option.bind_some _ _).symm.trans H; rw [hy271]; with_reducible exact H2_) | (have H2_ := (Option.bind_some _ _).symm.trans H; with_reducible exact H2_) | with_reducible exact H | (rw [hy271]; exact H) | exact H
        have Ny271 := Aside0.mk hy271
        clear hy271
        have H' := Aside0.mk H
        clear H
        go_wp2_with (first | ((with_reducible refine gate_callee (f := 13) rfl ?_); refine goesL_ (some 35) rfl rfl Try.func13 (by kernel_rfl) rfl #[.int .i64 a0, .slice A1 l1.length c1, .int .i64 x8_2] rfl (by (try simp only [List.map_toArray, List.map_cons, List.map_nil]); first | done | rfl | (simp only [List.length_drop, List.length_take]; rfl)) ?_; (with_reducible refine (spec_ShareQuota.calls k2 a0 _ _ l1 x8_2 t268 t269 t270 _ ?side1 ?side2 A11.out).mono ?_); (case side1 => repeat (first | exact (Kd.C_below HR1.out HB.out) | (with_reducible refine Kd.C_alloc ?_ _) | (with_reducible refine Kd.C_drewN ?_ _) | (with_reducible refine Kd.C_drew ?_))); (case side2 => exact HC1.out); rintro e w' ⟨rfl, ⟨nd, rfl⟩⟩; refine ⟨_, rfl, ?_⟩) | ((with_reducible refine gate_builtin (b := .append) (xs := #[.tmp 39, .tmp 41]) rfl ?_); at_builtin; refine Kd.R_append (Kd.int .i64) (w0 := w) w.heap.size rfl (.tmp 39) (.tmp 41) 22 3 (.int .i64 0) 8 rfl Try.underlying22 info3 rfl (by decide) (by omega) u6 x6_2 t268 [.int .i64 t268] (fun _ => True) (fun _ => False) rfl rfl ?aP (fun _ hk => hk.elim) ?aF ?aO ?aB ?aS ?aL ?_; (case aP => exact rfl); (case aB => exact (by repeat (first | (with_reducible first | exact HB.out | apply below_alloc | apply pw_below_drewN | apply below_drew1) | exact HB.out))); (case aF => exact (fun _ _ => trivial)); (case aO => exact (by (with_reducible repeat (first | apply Kd.R_alloc | apply Kd.R_drewN | apply Kd.R_drew)); exact HO_6.out)); (case aS => exact (below_size (by repeat (first | (with_reducible first | exact HB.out | apply below_alloc | apply pw_below_drewN | apply below_drew1) | exact HB.out)))); (case aL => have := LMc12.out; omega); intro v272 w13 ho hb hg hat; rw [← Ny271.out] at ho; have n0_ := Aside0.mk (hb); have n1_ := Aside0.mk (ho); clear HB; clear HO_6; have HB := n0_; have HO273 := n1_; clear n0_ n1_; clear ho hb hg hat))
        go_roundg k2
        case measure => have := HJ2.out; have := HK2.out; omega
        case rel => exact ⟨(y271), (wrap64 (x7_2 - t268)), (wrap64 (x8_2 + 1)), (by first | rfl | (simp; done) | (simp [*]; done)), (by first | rfl | (simp; done) | (simp [*]; done)), H', ⟨by have := HJ2.out; have := HK2.out; omega⟩, ⟨by (with_reducible repeat (first | apply Kd.R_alloc | apply Kd.R_drewN | apply Kd.R_drew)); exact HO273.out⟩, ⟨by repeat (first | (with_reducible first | exact HB.out | apply below_alloc | apply pw_below_drewN | apply below_drew1) | exact HB.out)⟩⟩
       ·
        rw [if_neg c12] at H
        exact absurd H (by simp)
      ·
       rw [if_neg c10] at H
       have c10b0 : decide (x8_2 < (l1.length : Int)) = false := decide_eq_false c10
       clear c10
       replace H := Option.bind_eq_some_iff.mp H
       obtain ⟨t274, A140, H⟩ := H
       replace H : (spec_Shares.l1 k2 x6_2 x7_2 t274 0) = some (r1, r2) := H
       have A14 := Aside0.mk A140
       clear A140
       have H' := Aside0.mk H
       clear H
       go_wp2_with (first | ((with_reducible refine gate_callee (f := 15) rfl ?_); refine goesL_ (some 48) rfl rfl Try.func15 (by kernel_rfl) rfl #[.int .i64 a0, .slice A1 l1.length c1] rfl (by (try simp only [List.map_toArray, List.map_cons, List.map_nil]); first | done | rfl | (simp only [List.length_drop, List.length_take]; rfl)) ?_; (with_reducible refine (spec_ShareOrder.calls k2 a0 _ _ l1 t274 _ ?side1 ?side2 A14.out).mono ?_); (case side1 => repeat (first | exact (Kd.C_below HR1.out HB.out) | (with_reducible refine Kd.C_alloc ?_ _) | (with_reducible refine Kd.C_drewN ?_ _) | (with_reducible refine Kd.C_drew ?_))); (case side2 => exact HC1.out); rintro e w15 ⟨v275, rfl, ho0, hb⟩; refine ⟨_, rfl, ?_⟩; have n0_ := Aside0.mk (Kd.R_elder' (by (with_reducible repeat (first | apply Kd.R_alloc | apply Kd.R_drewN | apply Kd.R_drew)); exact HO_6.out) (Kd.R_base ho0) hb); have n1_ := Aside0.mk (Kd.R_lower (Kd.R_new' ho0 (Kd.R_lt (by (with_reducible repeat (first | apply Kd.R_alloc | apply Kd.R_drewN | apply Kd.R_drew)); exact HO_6.out))) (below_size (by repeat (first | (with_reducible first | exact HB.out | apply below_alloc | apply pw_below_drewN | apply below_drew1) | exact HB.out)))); have n2_ := Aside0.mk (below_step (by repeat (first | (with_reducible first | exact HB.out | apply below_alloc | apply pw_below_drewN | apply below_drew1) | exact HB.out)) hb); clear HO_6; clear HB; have HO_6 := n0_; have HO276 := n1_; have HB := n2_; clear n0_ n1_ n2_; (try clear hb); (try clear hb2); (try clear hk); (try clear hi); (try clear ho0)))
       go_loopg [13] k2 (fun kq v13 w' => ∃ (x6_3 : List Int) (x13_3 : Int), v13 = .int .i64 x13_3 ∧ Aside0 (spec_Shares.l1 kq x6_3 x7_2 t274 x13_3 = some (r1, r2)) ∧ Aside0 (kq ≤ k2) ∧ Aside0 (Kd.R (Kd.int .i64) 3 w' w.heap.size (fun k_ => some k_ ≠ (v275 : Value).ownBlock) u6 x6_3) ∧ Aside0 (Kd.R (Kd.int .i64) 3 w' w.heap.size (fun k_ => some k_ ≠ (u6 : Value).ownBlock) v275 t274) ∧ Aside0 (Below w.heap.size w w'))
       case atStart => exact ⟨(x6_2), (0), (by first | rfl | (simp; done) | (simp [*]; done)), H', ⟨Nat.le_refl _⟩, ⟨by (with_reducible repeat (first | apply Kd.R_alloc | apply Kd.R_drewN | apply Kd.R_drew)); exact Kd.R_mono HO_6.out (fun _ hk => hk.2)⟩, ⟨by (with_reducible repeat (first | apply Kd.R_alloc | apply Kd.R_drewN | apply Kd.R_drew)); exact Kd.R_mono HO276.out (fun _ hk => hk.2)⟩, ⟨by repeat (first | (with_reducible first | exact HB.out | apply below_alloc | apply pw_below_drewN | apply below_drew1) | exact HB.out)⟩⟩
       case round =>
        clear H'
        try clear c1
        try clear p2
        try clear p6
        try clear c7
        try clear c9
        try clear c10
        try clear c10b0
        try clear c12
        try clear c13
        try clear c15
        try clear p2
        obtain ⟨x6_3, x13_3, rfl, HA, HK3, HO_6, HO_12, HB⟩ := hrel
        cases gk with
        | zero => exact absurd HA.out (by simp [spec_Shares.l1])
        | succ k3 =>
         have H := HA.out
         clear HA
         simp only [spec_Shares.l1] at H
         by_cases c16 : x13_3 < x7_2
         ·
          rw [if_pos c16] at H
          have c16b0 : decide (x13_3 < x7_2) = true := decide_eq_true c16
          clear c16
          by_cases c17 : 0 ≤ x13_3
          ·
           rw [if_pos c17] at H
           have c17b0 : decide (0 ≤ x13_3) = true := decide_eq_true c17
           clear c17
           by_cases c18 : x13_3 < (t274.length : Int)
           ·
            rw [if_pos c18] at H
            have c18b0 : decide (x13_3 < (t274.length : Int)) = true := decide_eq_true c18
            clear c18
            by_cases c19 : 0 ≤ (rd t274 x13_3)
            ·
             rw [if_pos c19] at H
             have c19b0 : decide (0 ≤ (rd t274 x13_3)) = true := decide_eq_true c19
             clear c19
             by_cases c20 : (rd t274 x13_3) < (x6_3.length : Int)
             ·
              rw [if_pos c20] at H
              have c20b0 : decide ((rd t274 x13_3) < (x6_3.length : Int)) = true := decide_eq_true c20
              clear c20
              obtain ⟨y280, hy280⟩ : ∃ y_ : List Int, y_ = (x6_3.set ((rd t274 x13_3) : Int).toNat (wrap64 ((rd x6_3 (rd t274 x13_3)) + 1))) := ⟨_, rfl⟩
              replace H : (spec_Shares.l1 k3 y280 x7_2 t274 (wrap64 (x13_3 + 1))) = some (r1, r2) := by first | (rw [hy280]; with_reducible exact H) | (have H2_ := (Option.bind_some _ _).symm.trans H; rw [hy280]; with_reducible exact H2_) | (have H2_ := (Option.bind_some _ _).symm.trans H; with_reducible exact H2_) | with_reducible exact H | (rw [hy280]; exact H) | exact H
              have Ny280 := Aside0.mk hy280
              clear hy280
              have H' := Aside0.mk H
              clear H
              try go_wp2
              have n0_ := Aside0.mk (Kd.R_drew HO_6.out)
              have n1_ := Aside0.mk (Kd.R_drew HO_12.out)
              have n2_ := Aside0.mk (below_drew1 HB.out)
              clear HO_6
              clear HO_12
              clear HB
              have HO_6 := n0_
              have HO_12 := n1_
              have HB := n2_
              clear n0_ n1_ n2_
              obtain ⟨Ao23, co23, eo23⟩ := Kd.R_slice HO_12.out
              (first | subst eo23 | (injection eo23 with f1_ f2_ f3_; have f4_ := f1_.symm; have f5_ := f3_.symm; clear f1_ f2_ f3_; subst f4_; subst f5_))
              have p277 : 0 ≤ (x13_3 : Int) := of_decide_eq_true (by first | (with_reducible assumption) | assumption)
              have q277 : x13_3 < (t274.length : Int) := of_decide_eq_true (by first | (with_reducible assumption) | assumption)
              obtain ⟨ad277, e277, hx277_0⟩ := Kd.at_int (Kd.R_reads' HO_12.out).2.2 x13_3 p277 q277
              cases e277
              replace p277 := eq_true p277
              replace q277 := eq_true q277
              have p278 : 0 ≤ (x13_3 : Int) := of_decide_eq_true (by first | (with_reducible assumption) | assumption)
              have q278 : x13_3 < (t274.length : Int) := of_decide_eq_true (by first | (with_reducible assumption) | assumption)
              obtain ⟨ad278, e278, hx278_0⟩ := Kd.at_int (Kd.R_reads' HO_12.out).2.2 x13_3 p278 q278
              obtain rfl : ad277 = ad278 := (by injection e278)
              replace p278 := eq_true p278
              replace q278 := eq_true q278
              obtain ⟨Ao24, co24, eo24⟩ := Kd.R_slice HO_6.out
              (first | subst eo24 | (injection eo24 with f1_ f2_ f3_; have f4_ := f1_.symm; have f5_ := f3_.symm; clear f1_ f2_ f3_; subst f4_; subst f5_))
              have p279 : 0 ≤ ((rd t274 x13_3) : Int) := of_decide_eq_true (by first | (with_reducible assumption) | assumption)
              have q279 : (rd t274 x13_3) < (x6_3.length : Int) := of_decide_eq_true (by first | (with_reducible assumption) | assumption)
              obtain ⟨ad279, e279, hx279_0⟩ := Kd.at_int (Kd.R_reads' HO_6.out).2.2 (rd t274 x13_3) p279 q279
              cases e279
              replace p279 := eq_true p279
              replace q279 := eq_true q279
              have p21 : 0 ≤ ((rd t274 x13_3) : Int) := of_decide_eq_true (by first | (with_reducible assumption) | assumption)
              have q21 : ((rd t274 x13_3) : Int) < ((x6_3.length : Int) : Int) := of_decide_eq_true (by first | (with_reducible assumption) | assumption)
              obtain ⟨go21, co21, eo21, gb21, gl21, cl21, HG21⟩ := Kd.R_form HO_6.out (by omega)
              (first | cases eo21 | (injection eo21 with ea_ en_ ec_; (first | subst ea_ | (injection ea_ with ea_; subst ea_)); subst ec_; clear en_))
              have GB21 := Aside0.mk gb21
              have GG21 := Aside0.mk HG21
              clear gb21 gl21 HG21
              (first | simp only [add_plain] at hx279_0 | skip)
              obtain ⟨hx21_0, hf21_0⟩ := Kd.R_celln 0 HO_6.out ((rd t274 x13_3) : Int) p21 q21
              replace p21 := eq_true p21
              replace q21 := eq_true q21
              have HP25 := Kd.R_putn HO_6.out ((rd t274 x13_3) : Int) (wrap64 ((rd x6_3 (rd t274 x13_3)) + 1))
              rw [← Ny280.out] at HP25
              have HQ25 := Aside0.mk HP25
              clear HP25
              refine start_ (n := 15) (S := fun w' => w'.cell? (ad277.add (x13_3).toNat) = some (.int .i64 (rd t274 x13_3)) ∧ w'.cell? (ad277.add (x13_3).toNat) = some (.int .i64 (rd t274 x13_3)) ∧ w'.cell? ⟨go21, ((rd t274 x13_3)).toNat, none⟩ = some (.int .i64 (rd x6_3 (rd t274 x13_3)))) (ds := [14]) #[false, false, false, false, false, false, false, false, false, false, false, false, false, false, false] (by kernel_rfl) rfl rfl ⟨hx277_0, hx278_0, hx279_0⟩ (fun hHeld => ?_); refine with_tabW spec_Shares.tab15 spec_Shares.bits15 (fun HT_ HW_ => ?_)
              generalize wr.drew = w22 at HO_6 HO_12 HB GG21 HQ25 hf21_0 hx21_0 hx277_0 hx278_0 hx279_0 hHeld ⊢
              refine pure_ (i := 0) (N := some 54) (v := ?_) (a' := ?_) #[true, false, false, false, false, false, false, false, false, false, false, false, false, false, false] rfl rfl (any_of HT_.out (by kernel_rfl)) (fun _ _ _ h => h) (Or.inl ⟨by rfl, ?_⟩) ?_ ?_
              rotate_left
              ·
               intro w'
               go_simp
               with_reducible rfl
              rotate_left
              ·
               simp only [Act.put, List.setIfInBounds_toArray, List.set_cons_zero, List.set_cons_succ, i64_w, i32_w]
               rfl
              refine pure_ (i := 1) (N := some 55) (v := ?_) (a' := ?_) #[true, true, false, false, false, false, false, false, false, false, false, false, false, false, false] rfl rfl (any_of HT_.out (by kernel_rfl)) (fun _ _ _ h => h) (Or.inl ⟨by rfl, ?_⟩) ?_ ?_
              rotate_left
              ·
               intro w'
               go_simp
               with_reducible rfl
              rotate_left
              ·
               simp only [Act.put, List.setIfInBounds_toArray, List.set_cons_zero, List.set_cons_succ, i64_w, i32_w]
               rfl
              refine pure_ (i := 2) (N := some 56) (v := ?_) (a' := ?_) #[true, true, true, false, false, false, false, false, false, false, false, false, false, false, false] rfl rfl (any_of HT_.out (by kernel_rfl)) (fun _ _ _ h => h) (Or.inl ⟨by rfl, ?_⟩) ?_ ?_
              rotate_left
              ·
               intro w'
               go_simp
               with_reducible rfl
              rotate_left
              ·
               simp only [Act.put, List.setIfInBounds_toArray, List.set_cons_zero, List.set_cons_succ, i64_w, i32_w]
               rfl
              refine pure_ (i := 3) (N := some 57) (v := ?_) (a' := ?_) #[true, true, true, true, false, false, false, false, false, false, false, false, false, false, false] rfl rfl (any_of HT_.out (by kernel_rfl)) (fun _ _ _ h => h) (Or.inl ⟨by rfl, ?_⟩) ?_ ?_
              rotate_left
              ·
               intro w'
               go_simp
               with_reducible rfl
              rotate_left
              ·
               simp only [Act.put, List.setIfInBounds_toArray, List.set_cons_zero, List.set_cons_succ, i64_w, i32_w]
               rfl
              refine pure_ (i := 5) (N := some 59) (v := ?_) (a' := ?_) #[true, true, true, true, false, true, false, false, false, false, false, false, false, false, false] rfl rfl (any_of HT_.out (by kernel_rfl)) (fun _ _ _ h => h) (Or.inl ⟨by rfl, ?_⟩) ?_ ?_
              rotate_left
              ·
               intro w'
               go_simp
               with_reducible rfl
              rotate_left
              ·
               simp only [Act.put, List.setIfInBounds_toArray, List.set_cons_zero, List.set_cons_succ, i64_w, i32_w]
               rfl
              refine pure_ (i := 6) (N := some 60) (v := ?_) (a' := ?_) #[true, true, true, true, false, true, true, false, false, false, false, false, false, false, false] rfl rfl (any_of HT_.out (by kernel_rfl)) (fun _ _ _ h => h) (Or.inl ⟨by rfl, ?_⟩) ?_ ?_
              rotate_left
              ·
               intro w'
               go_simp
               with_reducible rfl
              rotate_left
              ·
               simp only [Act.put, List.setIfInBounds_toArray, List.set_cons_zero, List.set_cons_succ, i64_w, i32_w]
               rfl
              refine pure_ (i := 7) (N := some 61) (v := ?_) (a' := ?_) #[true, true, true, true, false, true, true, true, false, false, false, false, false, false, false] rfl rfl (any_of HT_.out (by kernel_rfl)) (fun _ _ _ h => h) (Or.inl ⟨by rfl, ?_⟩) ?_ ?_
              rotate_left
              ·
               intro w'
               go_simp
               with_reducible rfl
              rotate_left
              ·
               simp only [Act.put, List.setIfInBounds_toArray, List.set_cons_zero, List.set_cons_succ, i64_w, i32_w]
               rfl
              refine pure_ (i := 8) (N := some 62) (v := ?_) (a' := ?_) #[true, true, true, true, false, true, true, true, true, false, false, false, false, false, false] rfl rfl (any_of HT_.out (by kernel_rfl)) (fun _ _ _ h => h) (Or.inl ⟨by rfl, ?_⟩) ?_ ?_
              rotate_left
              ·
               intro w'
               go_simp
               with_reducible rfl
              rotate_left
              ·
               simp only [Act.put, List.setIfInBounds_toArray, List.set_cons_zero, List.set_cons_succ, i64_w, i32_w]
               rfl
              refine take_ (i := 4) (N := some 58) (v := ?_) (a' := ?_) #[true, true, true, true, true, true, true, true, true, false, false, false, false, false, false] rfl rfl (take_ofW HT_.out HW_.out (by kernel_rfl)) (fun _ _ _ h => h) (Or.inl ⟨by rfl, ?_⟩) hHeld ?_ ?_
              rotate_left
              ·
               rintro w' ⟨s0, s1, s2⟩
               go_simp
               with_reducible rfl
              rotate_left
              ·
               simp only [Act.put, List.setIfInBounds_toArray, List.set_cons_zero, List.set_cons_succ, i64_w, i32_w]
               rfl
              refine take_ (i := 9) (N := some 63) (v := ?_) (a' := ?_) #[true, true, true, true, true, true, true, true, true, true, false, false, false, false, false] rfl rfl (take_ofW HT_.out HW_.out (by kernel_rfl)) (fun _ _ _ h => h) (Or.inl ⟨by rfl, ?_⟩) hHeld ?_ ?_
              rotate_left
              ·
               rintro w' ⟨s0, s1, s2⟩
               go_simp
               with_reducible rfl
              rotate_left
              ·
               simp only [Act.put, List.setIfInBounds_toArray, List.set_cons_zero, List.set_cons_succ, i64_w, i32_w]
               rfl
              refine pure_ (i := 10) (N := some 64) (v := ?_) (a' := ?_) #[true, true, true, true, true, true, true, true, true, true, true, false, false, false, false] rfl rfl (any_of HT_.out (by kernel_rfl)) (fun _ _ _ h => h) (Or.inl ⟨by rfl, ?_⟩) ?_ ?_
              rotate_left
              ·
               intro w'
               go_simp
               with_reducible rfl
              rotate_left
              ·
               simp only [Act.put, List.setIfInBounds_toArray, List.set_cons_zero, List.set_cons_succ, i64_w, i32_w]
               rfl
              refine take_ (i := 11) (N := some 65) (v := ?_) (a' := ?_) #[true, true, true, true, true, true, true, true, true, true, true, true, false, false, false] rfl rfl (take_ofW HT_.out HW_.out (by kernel_rfl)) (fun _ _ _ h => h) (Or.inl ⟨by rfl, ?_⟩) hHeld ?_ ?_
              rotate_left
              ·
               rintro w' ⟨s0, s1, s2⟩
               go_simp
               with_reducible rfl
              rotate_left
              ·
               simp only [Act.put, List.setIfInBounds_toArray, List.set_cons_zero, List.set_cons_succ, i64_w, i32_w]
               rfl
              refine pure_ (i := 12) (N := some 66) (v := ?_) (a' := ?_) #[true, true, true, true, true, true, true, true, true, true, true, true, true, false, false] rfl rfl (any_of HT_.out (by kernel_rfl)) (fun _ _ _ h => h) (Or.inl ⟨by rfl, ?_⟩) ?_ ?_
              rotate_left
              ·
               intro w'
               go_simp
               with_reducible rfl
              rotate_left
              ·
               simp only [Act.put, List.setIfInBounds_toArray, List.set_cons_zero, List.set_cons_succ, i64_w, i32_w]
               rfl
              refine pure_ (i := 13) (N := some 67) (v := ?_) (a' := ?_) #[true, true, true, true, true, true, true, true, true, true, true, true, true, true, false] rfl rfl (any_of HT_.out (by kernel_rfl)) (fun _ _ _ h => h) (Or.inl ⟨by rfl, ?_⟩) ?_ ?_
              rotate_left
              ·
               intro w'
               go_simp
               with_reducible rfl
              rotate_left
              ·
               simp only [Act.put, List.setIfInBounds_toArray, List.set_cons_zero, List.set_cons_succ, i64_w, i32_w]
               rfl
              refine last_ (i := 14) (N := none) #[true, true, true, true, true, true, true, true, true, true, true, true, true, true, true] rfl rfl (one_of HT_.out (by kernel_rfl)) (by decide) (fun K hK => ?_)
              refine skip_ (w1 := ?_) (by rfl) rfl ?_ ?_
              rotate_left
              ·
               go_simp
               rfl
              refine hK.out _ _ ?_
              clear hK K
              refine done_ (done_of HT_.out (by kernel_rfl)) ?_
              try go_wp2
              go_roundg k3
              case measure => have := HJ2.out; have := HK2.out; have := HK3.out; omega
              case rel => exact ⟨(y280), (wrap64 (x13_3 + 1)), (by first | rfl | (simp; done) | (simp [*]; done)), H', ⟨by have := HJ2.out; have := HK2.out; have := HK3.out; omega⟩, ⟨by (with_reducible repeat (first | apply Kd.R_alloc | apply Kd.R_drewN | apply Kd.R_drew)); exact HQ25.out⟩, ⟨by (with_reducible repeat (first | apply Kd.R_alloc | apply Kd.R_drewN | apply Kd.R_drew)); exact Kd.R_mono (Kd.R_far (p := ⟨go21, ((rd t274 x13_3) : Int).toNat, none⟩) (Kd.R_mono HO_12.out (fun k_ hk => (⟨hk, fun e_ => hk (by rw [e_]; rfl)⟩ : _ ∧ k_ ≠ go21))) (fun _ hk => hk.2) (.int .i64 (wrap64 ((rd x6_3 (rd t274 x13_3)) + 1)))) (fun _ hk => hk.1)⟩, ⟨by repeat (first | (with_reducible first | exact HB.out | apply below_alloc | apply pw_below_drewN | apply below_drew1 | refine below_set ?_ GB21.out) | exact HB.out)⟩⟩
             ·
              rw [if_neg c20] at H
              exact absurd H (by simp)
            ·
             rw [if_neg c19] at H
             exact absurd H (by simp)
           ·
            rw [if_neg c18] at H
            exact absurd H (by simp)
          ·
           rw [if_neg c17] at H
           exact absurd H (by simp)
         ·
          rw [if_neg c16] at H
          have c16b0 : decide (x13_3 < x7_2) = false := decide_eq_false c16
          clear c16
          simp only [Option.some.injEq, Prod.mk.injEq] at H
          obtain ⟨rfl, rfl⟩ := H
          go_wp2
          go_ret2
          exact ⟨_, by first | rfl | (simp [errW_none, errW_some] <;> rfl) | (simp [*, errW_none, errW_some] <;> rfl), by (with_reducible repeat (first | apply Kd.R_alloc | apply Kd.R_drewN | apply Kd.R_drew)); exact Kd.R_mono HO_6.out (fun _ hk => trivial), by repeat (first | (with_reducible first | exact HB.out | apply below_alloc | apply pw_below_drewN | apply below_drew1) | exact HB.out)⟩
end Go.Proofs.Ytpnejhelandclaa.P
namespace Go.Proofs.Ytpnejhelandclaa.P
open Go.RowKit Go.Proofs.YtpnejhelandclaaW.PrintWords Go.Proofs.YtpnejhelandclaaW.PrintLast Go.Proofs.YtpnejhelandclaaW.PrintMore
attribute [local go_sem] max2_int min2_int max_two min_two max_three min_three max_four min_four   -- for this text's walks alone
set_option linter.unusedVariables false
set_option linter.unusedSimpArgs false
mutual
def impl_Shares.l0 : Nat → Int → List Int → List Int → Int → Int → Option (List Int × Bool)
 | 0, _, _, _, _, _ => none
 | k + 1, x0, x1, x6, x20, x21 => if x21 < x20 then ((impl_ShareQuota.f k x0 x1 x21).bind fun bt285 => (if x6.length < 17592186044416 then (impl_Shares.l0 k x0 x1 (x6 ++ [bt285.1]) x20 (wrap64 (x21 + 1))) else (none))) else ((impl_sumOf.f k x6).bind fun t291 => ((impl_ShareOrder.f k x0 x1).bind fun t292 => (if 0 ≤ (wrap64 (x0 - t291)) then (if (wrap64 (x0 - t291)) ≤ (t292.length : Int) then ((some (t292.take ((wrap64 (x0 - t291)) : Int).toNat : List Int)).bind fun y295 => (impl_Shares.l1 k x6 y295 (y295.length : Int) 0)) else (none)) else (none))))
def impl_Shares.l1 : Nat → List Int → List Int → Int → Int → Option (List Int × Bool)
 | 0, _, _, _, _ => none
 | k + 1, x6, x45, x46, x47 => if x47 < x46 then (if 0 ≤ x47 then (if x47 < (x45.length : Int) then (if 0 ≤ (rd x45 x47) then (if (rd x45 x47) < (x6.length : Int) then (impl_Shares.l1 k (x6.set ((rd x45 x47) : Int).toNat (wrap64 ((rd x6 (rd x45 x47)) + 1))) x45 x46 (wrap64 (x47 + 1))) else (none)) else (none)) else (none)) else (none)) else (some (x6, true))
end
def impl_Shares.f (k : Nat) (a0 : Int) (l1 : List Int) : Option (List Int × Bool) := (impl_shareable.f k a0 l1).bind fun t281 => (if t281 = true then (impl_Shares.l0 k a0 l1 (([] : List Int)) (l1.length : Int) 0) else (some (([] : List Int), false)))
set_option maxHeartbeats 8000000 in
set_option maxRecDepth 100000 in
theorem impl_Shares.calls (k : Nat) (a0 : Int) (A1 : Option Addr) (c1 : Nat) (l1 : List Int) (r1 : List Int) (r2 : Bool) (w : World) (hr1 : Kd.C (Kd.int .i64) w A1 l1.length l1) (hc1 : l1.length ≤ c1) (h : impl_Shares.f k a0 l1 = some (r1, r2)) :
 Calls Try.prog 20 #[.int .i64 a0, .slice A1 l1.length c1] w fun e w' => ∃ v0_ : Value, e = .returned (.tuple #[v0_, .bool r2]) ∧ Kd.R (Kd.int .i64) 3 w' w.heap.size (fun _ => True) v0_ r1 ∧ Below w.heap.size w w' := by
 have HR1 := Aside0.mk hr1
 have HC1 := Aside0.mk hc1
 clear hr1 hc1
 have HB := Aside0.mk (Below.refl w.heap.size w)
 have H : ((impl_shareable.f k a0 l1).bind fun t281 => (if t281 = true then (impl_Shares.l0 k a0 l1 (([] : List Int)) (l1.length : Int) 0) else (some (([] : List Int), false)))) = some (r1, r2) := h
 clear h
 replace H := Option.bind_eq_some_iff.mp H
 obtain ⟨t281, A30, H⟩ := H
 replace H : (if t281 = true then (impl_Shares.l0 k a0 l1 (([] : List Int)) (l1.length : Int) 0) else (some (([] : List Int), false))) = some (r1, r2) := H
 have A3 := Aside0.mk A30
 clear A30
 by_cases c4 : t281 = true
 ·
  subst c4
  have H1 : (impl_Shares.l0 k a0 l1 (([] : List Int)) (l1.length : Int) 0) = some (r1, r2) := by rw [if_pos rfl] at H; exact H
  clear H
  have H := H1
  clear H1
  obtain ⟨y282, hy282⟩ : ∃ y_ : List Int, y_ = (([] : List Int)) := ⟨_, rfl⟩
  replace H : (impl_Shares.l0 k a0 l1 y282 (l1.length : Int) 0) = some (r1, r2) := by first | (rw [hy282]; with_reducible exact H) | (have H2_ := (Option.bind_some _ _).symm.trans H; rw [hy282]; with_reducible exact H2_) | (have H2_ := (Option.bind_some _ _).symm.trans H; with_reducible exact H2_) | with_reducible exact H | (rw [hy282]; exact H) | exact H
  have Ny282 := Aside0.mk hy282
  clear hy282
  have H' := Aside0.mk H
  clear H
  go_enter Try.func20, Try.ntmps20
  go_wp2_with (first | ((with_reducible refine gate_callee (f := 34) rfl ?_); refine goesL_ (some 16) rfl rfl Try.func34 (by kernel_rfl) rfl #[.int .i64 a0, .slice A1 l1.length c1] rfl (by (try simp only [List.map_toArray, List.map_cons, List.map_nil]); first | done | rfl | (simp only [List.length_drop, List.length_take]; rfl)) ?_; (with_reducible refine (impl_shareable.calls k a0 _ _ l1 true _ ?side1 ?side2 A3.out).mono ?_); (case side1 => repeat (first | exact HR1.out | (with_reducible refine Kd.C_alloc ?_ _) | (with_reducible refine Kd.C_drewN ?_ _) | (with_reducible refine Kd.C_drew ?_))); (case side2 => exact HC1.out); rintro e w5 ⟨rfl, hb⟩; refine ⟨_, rfl, ?_⟩; have n0_ := Aside0.mk (below_step (by repeat (first | (with_reducible first | exact HB.out | apply below_alloc | apply pw_below_drewN | apply below_drew1) | exact HB.out)) hb); clear HB; have HB := n0_; clear n0_; (try clear hb); (try clear hb2); (try clear hk); (try clear hi)) | ((with_reducible refine gate_dst (N := 18) rfl ?_); refine Kd.R_lit (Kd.int .i64) _ 3 ?hg (N := 18) ?hd (xs := ([] : List Int)) (inner := []) (ok := fun _ => True) (okp := fun _ => True) ?hr ?hp (fun _ hk => hk) trivial (Below.refl _ _) (Nat.le_refl _) (by simp) ?_; (case hd => rfl); (case hg => rfl); (case hr => first | (go_simp; done) | (go_simp; rfl)); (case hp => exact (Reps.none _ _)); intro v283 w6 ho7 hb hg_ hnew_; clear hg_ hnew_; (first | rw [← Ny282.out] at ho7 | (simp only [Int.reduceToNat] at ho7; rw [← Ny282.out] at ho7)); have n0_ := Aside0.mk (Kd.R_lower ho7 (below_size (by repeat (first | (with_reducible first | exact HB.out | apply below_alloc | apply pw_below_drewN | apply below_drew1) | exact HB.out)))); have n1_ := Aside0.mk (below_step (by repeat (first | (with_reducible first | exact HB.out | apply below_alloc | apply pw_below_drewN | apply below_drew1) | exact HB.out)) hb); clear HB; have HO284 := n0_; have HB := n1_; clear n0_ n1_; clear hb ho7))
  go_loopg [6, 21] k (fun kq v6 v21 w' => ∃ (x6_1 : List Int) (x21_1 : Int), v21 = .int .i64 x21_1 ∧ Aside0 (impl_Shares.l0 kq a0 l1 x6_1 (l1.length : Int) x21_1 = some (r1, r2)) ∧ Aside0 (kq ≤ k) ∧ Aside0 (Kd.R (Kd.int .i64) 3 w' w.heap.size (fun _ => True) v6 x6_1) ∧ Aside0 (Below w.heap.size w w'))
  case atStart => exact ⟨(y282), (0), (by first | rfl | (simp; done) | (simp [*]; done)), H', ⟨Nat.le_refl _⟩, ⟨by (with_reducible repeat (first | apply Kd.R_alloc | apply Kd.R_drewN | apply Kd.R_drew)); exact HO284.out⟩, ⟨by repeat (first | (with_reducible first | exact HB.out | apply below_alloc | apply pw_below_drewN | apply below_drew1) | exact HB.out)⟩⟩
  case round =>
   clear H'
   try clear c1
   try clear c2
   try clear p2
   try clear c3
   try clear c4
   obtain ⟨x6_1, x21_1, rfl, HA, HK1, HO_6, HB⟩ := hrel
   cases gk with
   | zero => exact absurd HA.out (by simp [impl_Shares.l0])
   | succ k1 =>
    have H := HA.out
    clear HA
    simp only [impl_Shares.l0] at H
    by_cases c8 : x21_1 < (l1.length : Int)
    ·
     rw [if_pos c8] at H
     have c8b0 : decide (x21_1 < (l1.length : Int)) = true := decide_eq_true c8
     clear c8
     replace H := Option.bind_eq_some_iff.mp H
     obtain ⟨⟨t285, t286, t287⟩, A90, H⟩ := H
     replace H : (if x6_1.length < 17592186044416 then (impl_Shares.l0 k1 a0 l1 (x6_1 ++ [t285]) (l1.length : Int) (wrap64 (x21_1 + 1))) else (none)) = some (r1, r2) := H
     have A9 := Aside0.mk A90
     clear A90
     by_cases c10 : x6_1.length < 17592186044416
     ·
      rw [if_pos c10] at H
      have LMc10 := Aside0.mk c10
      clear c10
      obtain ⟨y288, hy288⟩ : ∃ y_ : List Int, y_ = (x6_1 ++ [t285]) := ⟨_, rfl⟩
      replace H : (impl_Shares.l0 k1 a0 l1 y288 (l1.length : Int) (wrap64 (x21_1 + 1))) = some (r1, r2) := by first | (rw [hy288]; with_reducible exact H) | (have H2_ := (Option.bind_some _ _).symm.trans H; rw [hy288]; with_reducible exact H2_) | (have H2_ := (Option.bind_some _ _).symm.trans H; with_reducible exact H2_) | with_reducible exact H | (rw [hy288]; exact H) | exact H
      have Ny288 := Aside0.mk hy288
      clear hy288
      have H' := Aside0.mk H
      clear H
      go_wp2_with (first | ((with_reducible refine gate_callee (f := 14) rfl ?_); refine goesL_ (some 28) rfl rfl Try.func14 (by kernel_rfl) rfl #[.int .i64 a0, .slice A1 l1.length c1, .int .i64 x21_1] rfl (by (try simp only [List.map_toArray, List.map_cons, List.map_nil]); first | done | rfl | (simp only [List.length_drop, List.length_take]; rfl)) ?_; (with_reducible refine (impl_ShareQuota.calls k1 a0 _ _ l1 x21_1 t285 t286 t287 _ ?side1 ?side2 A9.out).mono ?_); (case side1 => repeat (first | exact (Kd.C_below HR1.out HB.out) | (with_reducible refine Kd.C_alloc ?_ _) | (with_reducible refine Kd.C_drewN ?_ _) | (with_reducible refine Kd.C_drew ?_))); (case side2 => exact HC1.out); rintro e w11 ⟨rfl, hb⟩; refine ⟨_, rfl, ?_⟩; have n0_ := Aside0.mk (Kd.R_below (by (with_reducible repeat (first | apply Kd.R_alloc | apply Kd.R_drewN | apply Kd.R_drew)); exact HO_6.out) hb); have n1_ := Aside0.mk (below_step (by repeat (first | (with_reducible first | exact HB.out | apply below_alloc | apply pw_below_drewN | apply below_drew1) | exact HB.out)) hb); clear HO_6; clear HB; have HO_6 := n0_; have HB := n1_; clear n0_ n1_; (try clear hb); (try clear hb2); (try clear hk); (try clear hi)) | ((with_reducible refine gate_builtin (b := .append) (xs := #[.tmp 32, .tmp 34]) rfl ?_); at_builtin; refine Kd.R_append (Kd.int .i64) (w0 := w) w.heap.size rfl (.tmp 32) (.tmp 34) 22 3 (.int .i64 0) 8 rfl Try.underlying22 info3 rfl (by decide) (by omega) u6 x6_1 t285 [.int .i64 t285] (fun _ => True) (fun _ => False) rfl rfl ?aP (fun _ hk => hk.elim) ?aF ?aO ?aB ?aS ?aL ?_; (case aP => exact rfl); (case aB => exact (by repeat (first | (with_reducible first | exact HB.out | apply below_alloc | apply pw_below_drewN | apply below_drew1) | exact HB.out))); (case aF => exact (fun _ _ => trivial)); (case aO => exact (by (with_reducible repeat (first | apply Kd.R_alloc | apply Kd.R_drewN | apply Kd.R_drew)); exact HO_6.out)); (case aS => exact (below_size (by repeat (first | (with_reducible first | exact HB.out | apply below_alloc | apply pw_below_drewN | apply below_drew1) | exact HB.out)))); (case aL => have := LMc10.out; omega); intro v289 w12 ho hb hg hat; rw [← Ny288.out] at ho; have n0_ := Aside0.mk (hb); have n1_ := Aside0.mk (ho); clear HB; clear HO_6; have HB := n0_; have HO290 := n1_; clear n0_ n1_; clear ho hb hg hat))
      go_roundg k1
      case measure => have := HK1.out; omega
      case rel => exact ⟨(y288), (wrap64 (x21_1 + 1)), (by first | rfl | (simp; done) | (simp [*]; done)), H', ⟨by have := HK1.out; omega⟩, ⟨by (with_reducible repeat (first | apply Kd.R_alloc | apply Kd.R_drewN | apply Kd.R_drew)); exact HO290.out⟩, ⟨by repeat (first | (with_reducible first | exact HB.out | apply below_alloc | apply pw_below_drewN | apply below_drew1) | exact HB.out)⟩⟩
     ·
      rw [if_neg c10] at H
      exact absurd H (by simp)
    ·
     rw [if_neg c8] at H
     have c8b0 : decide (x21_1 < (l1.length : Int)) = false := decide_eq_false c8
     clear c8
     replace H := Option.bind_eq_some_iff.mp H
     obtain ⟨t291, A130, H⟩ := H
     replace H : ((impl_ShareOrder.f k1 a0 l1).bind fun t292 => (if 0 ≤ (wrap64 (a0 - t291)) then (if (wrap64 (a0 - t291)) ≤ (t292.length : Int) then ((some (t292.take ((wrap64 (a0 - t291)) : Int).toNat : List Int)).bind fun y295 => (impl_Shares.l1 k1 x6_1 y295 (y295.length : Int) 0)) else (none)) else (none))) = some (r1, r2) := H
     have A13 := Aside0.mk A130
     clear A130
     replace H := Option.bind_eq_some_iff.mp H
     obtain ⟨t292, A140, H⟩ := H
     replace H : (if 0 ≤ (wrap64 (a0 - t291)) then (if (wrap64 (a0 - t291)) ≤ (t292.length : Int) then ((some (t292.take ((wrap64 (a0 - t291)) : Int).toNat : List Int)).bind fun y295 => (impl_Shares.l1 k1 x6_1 y295 (y295.length : Int) 0)) else (none)) else (none)) = some (r1, r2) := H
     have A14 := Aside0.mk A140
     clear A140
     obtain ⟨ji15, hji15⟩ : ∃ j_ : Int, (wrap64 (a0 - t291)) = j_ := ⟨_, rfl⟩
     replace H : (if 0 ≤ (ji15) then (if (ji15) ≤ (t292.length : Int) then ((some (t292.take ((ji15) : Int).toNat : List Int)).bind fun y295 => (impl_Shares.l1 k1 x6_1 y295 (y295.length : Int) 0)) else (none)) else (none)) = some (r1, r2) := by first | (rw [hji15] at H; exact H) | (simp only [hji15] at H ⊢; exact H)
     (try rw [hji15] at A13)
     (try rw [hji15] at A14)
     have hji15w : (IntKind.i64.wrap (a0 - t291)) = ji15 := (i64_w _).trans hji15
     by_cases c16 : 0 ≤ (ji15)
     ·
      rw [if_pos c16] at H
      have c16b0 := eq_true c16
      have c16b1 : decide (0 ≤ (ji15)) = true := decide_eq_true c16
      clear c16
      by_cases c17 : (ji15) ≤ (t292.length : Int)
      ·
       rw [if_pos c17] at H
       have c17b0 := eq_true c17
       have c17b1 : decide ((ji15) ≤ (t292.length : Int)) = true := decide_eq_true c17
       clear c17
       obtain ⟨y295, hy295⟩ : ∃ y_ : List Int, y_ = (t292.take ((ji15) : Int).toNat) := ⟨_, rfl⟩
       replace H : (impl_Shares.l1 k1 x6_1 y295 (y295.length : Int) 0) = some (r1, r2) := by first | (rw [hy295]; with_reducible exact H) | (have H2_ := (Option.bind_some _ _).symm.trans H; rw [hy295]; with_reducible exact H2_) | (have H2_ := (Option.bind_some _ _).symm.trans H; with_reducible exact H2_) | with_reducible exact H | (rw [hy295]; exact H) | exact H
       have Ny295 := Aside0.mk hy295
       clear hy295
       have H' := Aside0.mk H
       clear H
       obtain ⟨Ao18, co18, eo18⟩ := Kd.R_slice HO_6.out
       subst eo18
       go_wp2_with (first | ((with_reducible refine gate_callee (f := 32) rfl ?_); refine goesL_ (some 39) rfl rfl Try.func32 (by kernel_rfl) rfl #[.slice Ao18 x6_1.length co18] rfl (by (try simp only [List.map_toArray, List.map_cons, List.map_nil]); first | done | rfl | (simp only [List.length_drop, List.length_take]; rfl)) ?_; (with_reducible refine (impl_sumOf.calls k1 _ _ x6_1 t291 _ ?side1 ?side2 A13.out).mono ?_); (case side1 => repeat (first | exact (Kd.R_reads' HO_6.out).2.2 | (with_reducible refine Kd.C_alloc ?_ _) | (with_reducible refine Kd.C_drewN ?_ _) | (with_reducible refine Kd.C_drew ?_))); (case side2 => exact (Kd.R_reads' HO_6.out).2.1); rintro e w' ⟨rfl, ⟨nd, rfl⟩⟩; refine ⟨_, rfl, ?_⟩) | ((with_reducible refine gate_callee (f := 16) rfl ?_); refine goesL_ (some 43) rfl rfl Try.func16 (by kernel_rfl) rfl #[.int .i64 a0, .slice A1 l1.length c1] rfl (by (try simp only [List.map_toArray, List.map_cons, List.map_nil]); first | done | rfl | (simp only [List.length_drop, List.length_take]; rfl)) ?_; (with_reducible refine (impl_ShareOrder.calls k1 a0 _ _ l1 t292 _ ?side1 ?side2 A14.out).mono ?_); (case side1 => repeat (first | exact (Kd.C_below HR1.out (by repeat (first | (with_reducible first | exact HB.out | apply below_alloc | apply pw_below_drewN | apply below_drew1) | exact HB.out))) | (with_reducible refine Kd.C_alloc ?_ _) | (with_reducible refine Kd.C_drewN ?_ _) | (with_reducible refine Kd.C_drew ?_))); (case side2 => exact HC1.out); rintro e w19 ⟨v293, rfl, ho0, hb⟩; refine ⟨_, rfl, ?_⟩; have n0_ := Aside0.mk (Kd.R_elder' (by (with_reducible repeat (first | apply Kd.R_alloc | apply Kd.R_drewN | apply Kd.R_drew)); exact HO_6.out) (Kd.R_base ho0) hb); have n1_ := Aside0.mk (Kd.R_lower (Kd.R_new' ho0 (Kd.R_lt (by (with_reducible repeat (first | apply Kd.R_alloc | apply Kd.R_drewN | apply Kd.R_drew)); exact HO_6.out))) (below_size (by repeat (first | (with_reducible first | exact HB.out | apply below_alloc | apply pw_below_drewN | apply below_drew1) | exact HB.out)))); have n2_ := Aside0.mk (below_step (by repeat (first | (with_reducible first | exact HB.out | apply below_alloc | apply pw_below_drewN | apply below_drew1) | exact HB.out)) hb); clear HO_6; clear HB; have HO_6 := n0_; have HO294 := n1_; have HB := n2_; clear n0_ n1_ n2_; (try clear hb); (try clear hb2); (try clear hk); (try clear hi); (try clear ho0); obtain ⟨Ao21, co21, eo21⟩ := Kd.R_slice HO294.out; subst eo21; have q20 : ((ji15) : Int) ≤ ((t292.length : Int) : Int) := of_decide_eq_true (by first | (with_reducible assumption) | assumption); obtain ⟨i020, hi020, _, hsz20, _⟩ := info_parts info3; have hroom20 : t292.length ≤ co21 := (Kd.R_reads' HO294.out).2.1; have hC20 : Kd.C (Kd.int .i64) _ Ao21 t292.length t292 := (Kd.R_reads' HO294.out).2.2; have hcut20 := cut_to (P := Try.prog) 22 3 .i64 Try.underlying22 hi020 Ao21 t292.length co21 (ji15) (of_decide_eq_true (by first | (with_reducible assumption) | assumption)) q20 hroom20; have hr20 := Kd.C_take (m := ((ji15) : Int).toNat) hC20 (by omega); have hy20 : y295.length = ((ji15) : Int).toNat := (by rw [Ny295.out, List.length_take]; omega); rw [← Ny295.out] at hr20; rw [← hy20] at hcut20; have HR298 := Aside0.mk hr20; have HC298 := Aside0.mk (show y295.length ≤ co21 from by omega); clear hr20 hC20 hroom20 hi020 hsz20; have KY20 := Aside0.mk hy20; clear hy20; have KL20 := Aside0.mk (show ((ji15) : Int).toNat ≤ t292.length from by omega); replace q20 := eq_true q20))
       go_loopg [47] k1 (fun kq v47 w' => ∃ (x6_2 : List Int) (x47_2 : Int), v47 = .int .i64 x47_2 ∧ Aside0 (impl_Shares.l1 kq x6_2 y295 (y295.length : Int) x47_2 = some (r1, r2)) ∧ Aside0 (kq ≤ k1) ∧ Aside0 (Kd.R (Kd.int .i64) 3 w' w.heap.size (fun _ => True) (.slice Ao18 x6_1.length co18) x6_2) ∧ Aside0 (Below w.heap.size w w') ∧ Aside0 (Kd.R (Kd.int .i64) 3 w' w.heap.size (fun k_ => True ∧ some k_ ≠ ((.slice Ao18 x6_1.length co18) : Value).ownBlock) (.slice Ao21 t292.length co21) t292))
       case atStart => exact ⟨(x6_1), (0), (by first | rfl | (simp; done) | (simp [*]; done)), H', ⟨Nat.le_refl _⟩, ⟨by (with_reducible repeat (first | apply Kd.R_alloc | apply Kd.R_drewN | apply Kd.R_drew)); exact Kd.R_mono HO_6.out (fun _ hk => trivial)⟩, ⟨by repeat (first | (with_reducible first | exact HB.out | apply below_alloc | apply pw_below_drewN | apply below_drew1) | exact HB.out)⟩, ⟨HO294.out⟩⟩
       case round =>
        clear H'
        try clear c1
        try clear c2
        try clear p2
        try clear q2
        try clear c3
        try clear c4
        try clear p6
        try clear c8
        try clear c8b0
        try clear c10
        try clear c14
        try clear c16
        try clear c16b0
        try clear c16b1
        try clear c17
        try clear c17b0
        try clear c17b1
        try clear c20
        try clear q20
        try clear p2
        try clear q20
        clear HO_6 HO294 HR298
        obtain ⟨x6_2, x47_2, rfl, HA, HK2, HO_6, HB, HO294⟩ := hrel
        have hr_ := Kd.C_take (m := ((ji15) : Int).toNat) (Kd.R_reads' HO294.out).2.2 (by have := KL20.out; omega)
        rw [← Ny295.out] at hr_
        have HR298 := Aside0.mk hr_
        clear hr_
        have hl6_2 := (Kd.R_reads' HO_6.out).1
        rw [hl6_2] at HO_6
        (try simp only [hl6_2])
        cases gk with
        | zero => exact absurd HA.out (by simp [impl_Shares.l1])
        | succ k2 =>
         have H := HA.out
         clear HA
         simp only [impl_Shares.l1] at H
         by_cases c22 : x47_2 < (y295.length : Int)
         ·
          rw [if_pos c22] at H
          have c22b0 : decide (x47_2 < (y295.length : Int)) = true := decide_eq_true c22
          clear c22
          by_cases c23 : 0 ≤ x47_2
          ·
           rw [if_pos c23] at H
           have c23b0 : decide (0 ≤ x47_2) = true := decide_eq_true c23
           clear c23
           by_cases c24 : x47_2 < (y295.length : Int)
           ·
            rw [if_pos c24] at H
            have c24b0 : decide (x47_2 < (y295.length : Int)) = true := decide_eq_true c24
            clear c24
            by_cases c25 : 0 ≤ (rd y295 x47_2)
            ·
             rw [if_pos c25] at H
             have c25b0 : decide (0 ≤ (rd y295 x47_2)) = true := decide_eq_true c25
             clear c25
             by_cases c26 : (rd y295 x47_2) < (x6_2.length : Int)
             ·
              rw [if_pos c26] at H
              have c26b0 : decide ((rd y295 x47_2) < (x6_2.length : Int)) = true := decide_eq_true c26
              clear c26
              obtain ⟨y301, hy301⟩ : ∃ y_ : List Int, y_ = (x6_2.set ((rd y295 x47_2) : Int).toNat (wrap64 ((rd x6_2 (rd y295 x47_2)) + 1))) := ⟨_, rfl⟩
              replace H : (impl_Shares.l1 k2 y301 y295 (y295.length : Int) (wrap64 (x47_2 + 1))) = some (r1, r2) := by first | (rw [hy301]; with_reducible exact H) | (have H2_ := (Option.bind_some _ _).symm.trans H; rw [hy301]; with_reducible exact H2_) | (have H2_ := (Option.bind_some _ _).symm.trans H; with_reducible exact H2_) | with_reducible exact H | (rw [hy301]; exact H) | exact H
              have Ny301 := Aside0.mk hy301
              clear hy301
              have H' := Aside0.mk H
              clear H
              have p299 : 0 ≤ (x47_2 : Int) := of_decide_eq_true (by first | (with_reducible assumption) | assumption)
              have q299 : x47_2 < (y295.length : Int) := of_decide_eq_true (by first | (with_reducible assumption) | assumption)
              obtain ⟨ad299, e299, hx299_0⟩ := Kd.at_int HR298.out x47_2 p299 q299
              cases e299
              replace p299 := eq_true p299
              replace q299 := eq_true q299
              have p300 : 0 ≤ ((rd y295 x47_2) : Int) := of_decide_eq_true (by first | (with_reducible assumption) | assumption)
              have q300 : (rd y295 x47_2) < (x6_2.length : Int) := of_decide_eq_true (by first | (with_reducible assumption) | assumption)
              obtain ⟨ad300, e300, hx300_0⟩ := Kd.at_int (Kd.R_reads' HO_6.out).2.2 (rd y295 x47_2) p300 q300
              cases e300
              replace p300 := eq_true p300
              replace q300 := eq_true q300
              have p27 : 0 ≤ ((rd y295 x47_2) : Int) := of_decide_eq_true (by first | (with_reducible assumption) | assumption)
              have q27 : ((rd y295 x47_2) : Int) < ((x6_2.length : Int) : Int) := of_decide_eq_true (by first | (with_reducible assumption) | assumption)
              obtain ⟨go27, co27, eo27, gb27, gl27, cl27, HG27⟩ := Kd.R_form HO_6.out (by omega)
              (first | cases eo27 | (injection eo27 with ea_ en_ ec_; (first | subst ea_ | (injection ea_ with ea_; subst ea_)); subst ec_; clear en_))
              have GB27 := Aside0.mk gb27
              have GG27 := Aside0.mk HG27
              clear gb27 gl27 HG27
              (first | simp only [add_plain] at hx300_0 | skip)
              obtain ⟨hx27_0, hf27_0⟩ := Kd.R_celln 0 HO_6.out ((rd y295 x47_2) : Int) p27 q27
              replace p27 := eq_true p27
              replace q27 := eq_true q27
              have HP28 := Kd.R_putg HO_6.out ((rd y295 x47_2) : Int) (wrap64 ((rd x6_2 (rd y295 x47_2)) + 1))
              go_wp2_with (first | ((with_reducible refine gate_store (t := 3) (p := 56) rfl ?_); refine store_event (t := 3) (p := 56) (v := ?vo_w29) (w1 := (wr.setCell ⟨go27, ((rd y295 x47_2) : Int).toNat, none⟩ (.int .i64 (wrap64 ((rd x6_2 (rd y295 x47_2)) + 1))))) ?hg ?ho ?hn ?hr ?_; (case ho => rfl); (case hg => rfl); (case hn => rfl); (case hr => first | (go_simp; done) | (go_simp; rfl)); intro w29 hw; have hg : wr.grownBy w29 (some go27) := (by rw [hw]; exact HP28.2); have hp_ : Kd.R (Kd.int .i64) 3 w29 w.heap.size (fun _ => True) (.slice (some ⟨go27, 0, none⟩) x6_2.length co18) y301 := (by rw [hw, Ny301.out]; exact HP28.1); clear HP28; have n0_ := Aside0.mk (hp_); have n1_ := Aside0.mk ((by rw [hw]; exact below_set (HB.out) GB27.out : Below w.heap.size w w29)); have n2_ := Aside0.mk (Kd.R_grown HO294.out hg (fun k_ hk_ => hk_.2)); clear HO_6; clear HB; clear HO294; have HO_6 := n0_; have HB := n1_; have HO294 := n2_; clear n0_ n1_ n2_; clear hg hw hp_))
              (try simp only [← hl6_2])
              go_roundg k2
              case measure => have := HK1.out; have := HK2.out; omega
              case rel => exact ⟨(y301), (wrap64 (x47_2 + 1)), (by first | rfl | (simp; done) | (simp [*]; done)), H', ⟨by have := HK1.out; have := HK2.out; omega⟩, ⟨by (try simp only [hl6_2]); (with_reducible repeat (first | apply Kd.R_alloc | apply Kd.R_drewN | apply Kd.R_drew)); exact HO_6.out⟩, ⟨by repeat (first | (with_reducible first | exact HB.out | apply below_alloc | apply pw_below_drewN | apply below_drew1) | exact HB.out)⟩, ⟨HO294.out⟩⟩
             ·
              rw [if_neg c26] at H
              exact absurd H (by simp)
            ·
             rw [if_neg c25] at H
             exact absurd H (by simp)
           ·
            rw [if_neg c24] at H
            exact absurd H (by simp)
          ·
           rw [if_neg c23] at H
           exact absurd H (by simp)
         ·
          rw [if_neg c22] at H
          have c22b0 : decide (x47_2 < (y295.length : Int)) = false := decide_eq_false c22
          clear c22
          simp only [Option.some.injEq, Prod.mk.injEq] at H
          obtain ⟨rfl, rfl⟩ := H
          go_wp2
          go_ret2
          exact ⟨_, by first | rfl | (simp [errW_none, errW_some] <;> rfl) | (simp only [← hji15]; first | rfl | (simp [errW_none, errW_some] <;> rfl)) | (simp [*, errW_none, errW_some] <;> rfl), by (with_reducible repeat (first | apply Kd.R_alloc | apply Kd.R_drewN | apply Kd.R_drew)); exact HO_6.out, by repeat (first | (with_reducible first | exact HB.out | apply below_alloc | apply pw_below_drewN | apply below_drew1) | exact HB.out)⟩
      ·
       rw [if_neg c17] at H
       exact absurd H (by simp)
     ·
      rw [if_neg c16] at H
      exact absurd H (by simp)
 ·
  replace c4 := Bool.eq_false_iff.mpr c4
  subst c4
  have H1 : (some (([] : List Int), false)) = some (r1, r2) := by rw [if_neg (show ¬ (false = true) by decide)] at H; exact H
  clear H
  have H := H1
  clear H1
  simp only [Option.some.injEq, Prod.mk.injEq] at H
  obtain ⟨rfl, rfl⟩ := H
  go_enter Try.func20, Try.ntmps20
  go_wp2_with (first | ((with_reducible refine gate_callee (f := 34) rfl ?_); refine goesL_ (some 16) rfl rfl Try.func34 (by kernel_rfl) rfl #[.int .i64 a0, .slice A1 l1.length c1] rfl (by (try simp only [List.map_toArray, List.map_cons, List.map_nil]); first | done | rfl | (simp only [List.length_drop, List.length_take]; rfl)) ?_; (with_reducible refine (impl_shareable.calls k a0 _ _ l1 false _ ?side1 ?side2 A3.out).mono ?_); (case side1 => repeat (first | exact HR1.out | (with_reducible refine Kd.C_alloc ?_ _) | (with_reducible refine Kd.C_drewN ?_ _) | (with_reducible refine Kd.C_drew ?_))); (case side2 => exact HC1.out); rintro e w30 ⟨rfl, hb⟩; refine ⟨_, rfl, ?_⟩; have n0_ := Aside0.mk (below_step (by repeat (first | (with_reducible first | exact HB.out | apply below_alloc | apply pw_below_drewN | apply below_drew1) | exact HB.out)) hb); clear HB; have HB := n0_; clear n0_; (try clear hb); (try clear hb2); (try clear hk); (try clear hi)))
  go_ret2
  exact ⟨_, by first | rfl | (simp [errW_none, errW_some] <;> rfl) | (simp [*, errW_none, errW_some] <;> rfl), by first | exact Kd.R_nil _ _ _ _ _ | exact Kd.N_nil _ _ _ _ _ | exact Kd.V_nil _ _ _ _ _ | exact Kd.Q_nil _ _ _ _ _ | exact Kd.S_nil _ _ _ _ _, by repeat (first | (with_reducible first | exact HB.out | apply below_alloc | apply pw_below_drewN | apply below_drew1) | exact HB.out)⟩
mutual
def laws_FnExactShares.j0 : Nat → Int → List Int → List Int → Bool → List Int → List Int → Bool → Bool → Option (Bool)
 | 0, _, _, _, _, _, _, _, _ => none
 | k + 1, x0, x1, x5, x6, x7, x8, x9, x41 => if x41 = true then (none) else ((laws_toIntS.f k x1).bind fun t317 => ((laws_eqIntS.f k x7 t317).bind fun t320 => (if t320 = true then ((laws_markIntS.f k x7 1).bind fun bt321 => (if bt321.1 < 0 then (none) else ((laws_eqIntS.f k x8 x5).bind fun t323 => (if t323 = true then (laws_FnExactShares.j1 k x0 x1 x5 x6 x8 (x9 != x6)) else (none))))) else (none))))
def laws_FnExactShares.j1 : Nat → Int → List Int → List Int → Bool → List Int → Bool → Option (Bool)
 | 0, _, _, _, _, _, _ => none
 | k + 1, x0, x1, x5, x6, x8, x62 => if x62 = true then (none) else ((laws_markIntS.f k x8 1).bind fun bt324 => ((laws_heldIntS.f k bt324.2 1).bind fun t326 => (if t326 < 0 then (none) else (if t326 = bt324.1 then ((laws_toIntS.f k x1).bind fun t327 => ((impl_Shares.f k x0 t327).bind fun bt330 => ((laws_eqIntS.f k bt330.1 x5).bind fun t334 => (if t334 = true then (laws_FnExactShares.j2 k bt324.2 bt324.1 (bt330.2 != x6)) else (none))))) else (none)))))
def laws_FnExactShares.j2 : Nat → List Int → Int → Bool → Option (Bool)
 | 0, _, _, _ => none
 | k + 1, x8, x11, x89 => if x89 = true then (none) else ((laws_heldIntS.f k x8 1).bind fun t335 => (if t335 < 0 then (none) else (if t335 = x11 then (some true) else (none))))
end
def laws_FnExactShares.f (k : Nat) (a0 : Int) (l1 : List Int) : Option (Bool) := if (l1.length : Int) > 1048576 then (some true) else ((laws_toIntS.f k l1).bind fun t302 => ((spec_Shares.f k a0 t302).bind fun bt305 => ((laws_toIntS.f k l1).bind fun t309 => ((impl_Shares.f k a0 t309).bind fun bt312 => ((laws_eqIntS.f k bt312.1 bt305.1).bind fun t316 => (if t316 = true then (laws_FnExactShares.j0 k a0 l1 bt305.1 bt305.2 t309 bt312.1 bt312.2 (bt312.2 != bt305.2)) else (none)))))))
set_option maxHeartbeats 8000000 in
set_option maxRecDepth 100000 in
theorem laws_FnExactShares.calls (k : Nat) (a0 : Int) (A1 : Option Addr) (c1 : Nat) (l1 : List Int) (r : Bool) (w : World) (hr1 : Kd.C (Kd.int .i64) w A1 l1.length l1) (hc1 : l1.length ≤ c1) (h : laws_FnExactShares.f k a0 l1 = some r) :
 Calls Try.prog 6 #[.int .i64 a0, .slice A1 l1.length c1] w fun e w' => e = .returned (.bool r) ∧ Below w.heap.size w w' := by
 have HR1 := Aside0.mk hr1
 have HC1 := Aside0.mk hc1
 clear hr1 hc1
 have HB := Aside0.mk (Below.refl w.heap.size w)
 have H : (if (l1.length : Int) > 1048576 then (some true) else ((laws_toIntS.f k l1).bind fun t302 => ((spec_Shares.f k a0 t302).bind fun bt305 => ((laws_toIntS.f k l1).bind fun t309 => ((impl_Shares.f k a0 t309).bind fun bt312 => ((laws_eqIntS.f k bt312.1 bt305.1).bind fun t316 => (if t316 = true then (laws_FnExactShares.j0 k a0 l1 bt305.1 bt305.2 t309 bt312.1 bt312.2 (bt312.2 != bt305.2)) else (none)))))))) = some r := h
 clear h
 by_cases c3 : (l1.length : Int) > 1048576
 ·
  rw [if_pos c3] at H
  have c3b0 : decide (1048576 < (l1.length : Int)) = true := decide_eq_true c3
  have c3b1 : decide (1048576 < l1.length) = true := decide_eq_true (by omega)
  clear c3
  obtain rfl := Option.some.inj H
  go_enter Try.func6, Try.ntmps6
  go_wp2
  go_ret
  exact ⟨by first | rfl | (simp [errW_none, errW_some] <;> rfl) | (simp [*, errW_none, errW_some] <;> rfl), by repeat (first | (with_reducible first | exact HB.out | apply below_alloc | apply pw_below_drewN | apply below_drew1) | exact HB.out)⟩
 ·
  rw [if_neg c3] at H
  have c3b0 : decide (1048576 < (l1.length : Int)) = false := decide_eq_false c3
  have c3b1 : decide (1048576 < l1.length) = false := decide_eq_false (by omega)
  clear c3
  replace H := Option.bind_eq_some_iff.mp H
  obtain ⟨t302, A40, H⟩ := H
  replace H : ((spec_Shares.f k a0 t302).bind fun bt305 => ((laws_toIntS.f k l1).bind fun t309 => ((impl_Shares.f k a0 t309).bind fun bt312 => ((laws_eqIntS.f k bt312.1 bt305.1).bind fun t316 => (if t316 = true then (laws_FnExactShares.j0 k a0 l1 bt305.1 bt305.2 t309 bt312.1 bt312.2 (bt312.2 != bt305.2)) else (none)))))) = some r := H
  have A4 := Aside0.mk A40
  clear A40
  replace H := Option.bind_eq_some_iff.mp H
  obtain ⟨⟨t305, t306⟩, A50, H⟩ := H
  replace H : ((laws_toIntS.f k l1).bind fun t309 => ((impl_Shares.f k a0 t309).bind fun bt312 => ((laws_eqIntS.f k bt312.1 t305).bind fun t316 => (if t316 = true then (laws_FnExactShares.j0 k a0 l1 t305 t306 t309 bt312.1 bt312.2 (bt312.2 != t306)) else (none))))) = some r := H
  have A5 := Aside0.mk A50
  clear A50
  replace H := Option.bind_eq_some_iff.mp H
  obtain ⟨t309, A60, H⟩ := H
  replace H : ((impl_Shares.f k a0 t309).bind fun bt312 => ((laws_eqIntS.f k bt312.1 t305).bind fun t316 => (if t316 = true then (laws_FnExactShares.j0 k a0 l1 t305 t306 t309 bt312.1 bt312.2 (bt312.2 != t306)) else (none)))) = some r := H
  have A6 := Aside0.mk A60
  clear A60
  replace H := Option.bind_eq_some_iff.mp H
  obtain ⟨⟨t312, t313⟩, A70, H⟩ := H
  replace H : ((laws_eqIntS.f k t312 t305).bind fun t316 => (if t316 = true then (laws_FnExactShares.j0 k a0 l1 t305 t306 t309 t312 t313 (t313 != t306)) else (none))) = some r := H
  have A7 := Aside0.mk A70
  clear A70
  have HC8 := Aside0.mk H
  clear H
  go_enter Try.func6, Try.ntmps6
  go_upto_region 6 with (first | ((with_reducible refine gate_callee (f := 10) rfl ?_); refine goesL_ (some 21) rfl rfl Try.func10 (by kernel_rfl) rfl #[.slice A1 l1.length c1] rfl (by (try simp only [List.map_toArray, List.map_cons, List.map_nil]); first | done | rfl | (simp only [List.length_drop, List.length_take]; rfl)) ?_; (with_reducible refine (laws_toIntS.calls k _ _ l1 t302 _ ?side1 ?side2 A4.out).mono ?_); (case side1 => repeat (first | exact HR1.out | (with_reducible refine Kd.C_alloc ?_ _) | (with_reducible refine Kd.C_drewN ?_ _) | (with_reducible refine Kd.C_drew ?_))); (case side2 => exact HC1.out); rintro e w9 ⟨v303, rfl, ho0, hb⟩; refine ⟨_, rfl, ?_⟩; have n0_ := Aside0.mk (Kd.R_lower ho0 (below_size (by repeat (first | (with_reducible first | exact HB.out | apply below_alloc | apply pw_below_drewN | apply below_drew1) | exact HB.out)))); have n1_ := Aside0.mk (below_step (by repeat (first | (with_reducible first | exact HB.out | apply below_alloc | apply pw_below_drewN | apply below_drew1) | exact HB.out)) hb); clear HB; have HO304 := n0_; have HB := n1_; clear n0_ n1_; (try clear hb); (try clear hb2); (try clear hk); (try clear hi); (try clear ho0); obtain ⟨Ao10, co10, eo10⟩ := Kd.R_slice HO304.out; subst eo10) | ((with_reducible refine gate_callee (f := 19) rfl ?_); refine goesL_ (some 22) rfl rfl Try.func19 (by kernel_rfl) rfl #[.int .i64 a0, .slice Ao10 t302.length co10] rfl (by (try simp only [List.map_toArray, List.map_cons, List.map_nil]); first | done | rfl | (simp only [List.length_drop, List.length_take]; rfl)) ?_; (with_reducible refine (spec_Shares.calls k a0 _ _ t302 t305 t306 _ ?side1 ?side2 A5.out).mono ?_); (case side1 => repeat (first | exact (Kd.R_reads' HO304.out).2.2 | (with_reducible refine Kd.C_alloc ?_ _) | (with_reducible refine Kd.C_drewN ?_ _) | (with_reducible refine Kd.C_drew ?_))); (case side2 => exact (Kd.R_reads' HO304.out).2.1); rintro e w11 ⟨v307, rfl, ho0, hb⟩; refine ⟨_, rfl, ?_⟩; have n0_ := Aside0.mk (Kd.R_elder' (by (with_reducible repeat (first | apply Kd.R_alloc | apply Kd.R_drewN | apply Kd.R_drew)); exact HO304.out) (Kd.R_base ho0) hb); have n1_ := Aside0.mk (Kd.R_lower (Kd.R_new' ho0 (Kd.R_lt (by (with_reducible repeat (first | apply Kd.R_alloc | apply Kd.R_drewN | apply Kd.R_drew)); exact HO304.out))) (below_size (by repeat (first | (with_reducible first | exact HB.out | apply below_alloc | apply pw_below_drewN | apply below_drew1) | exact HB.out)))); have n2_ := Aside0.mk (below_step (by repeat (first | (with_reducible first | exact HB.out | apply below_alloc | apply pw_below_drewN | apply below_drew1) | exact HB.out)) hb); clear HO304; clear HB; have HO304 := n0_; have HO308 := n1_; have HB := n2_; clear n0_ n1_ n2_; (try clear hb); (try clear hb2); (try clear hk); (try clear hi); (try clear ho0)) | ((with_reducible refine gate_callee (f := 10) rfl ?_); refine goesL_ (some 26) rfl rfl Try.func10 (by kernel_rfl) rfl #[.slice A1 l1.length c1] rfl (by (try simp only [List.map_toArray, List.map_cons, List.map_nil]); first | done | rfl | (simp only [List.length_drop, List.length_take]; rfl)) ?_; (with_reducible refine (laws_toIntS.calls k _ _ l1 t309 _ ?side1 ?side2 A6.out).mono ?_); (case side1 => repeat (first | exact (Kd.C_below HR1.out HB.out) | (with_reducible refine Kd.C_alloc ?_ _) | (with_reducible refine Kd.C_drewN ?_ _) | (with_reducible refine Kd.C_drew ?_))); (case side2 => exact HC1.out); rintro e w12 ⟨v310, rfl, ho0, hb⟩; refine ⟨_, rfl, ?_⟩; have n0_ := Aside0.mk (Kd.R_elder' (by (with_reducible repeat (first | apply Kd.R_alloc | apply Kd.R_drewN | apply Kd.R_drew)); exact HO304.out) (Kd.R_base ho0) hb); have n1_ := Aside0.mk (Kd.R_elder' (by (with_reducible repeat (first | apply Kd.R_alloc | apply Kd.R_drewN | apply Kd.R_drew)); exact HO308.out) (Kd.R_base ho0) hb); have n2_ := Aside0.mk (Kd.R_lower (Kd.R_new' (Kd.R_new' ho0 (Kd.R_lt (by (with_reducible repeat (first | apply Kd.R_alloc | apply Kd.R_drewN | apply Kd.R_drew)); exact HO304.out))) (Kd.R_lt (by (with_reducible repeat (first | apply Kd.R_alloc | apply Kd.R_drewN | apply Kd.R_drew)); exact HO308.out))) (below_size (by repeat (first | (with_reducible first | exact HB.out | apply below_alloc | apply pw_below_drewN | apply below_drew1) | exact HB.out)))); have n3_ := Aside0.mk (below_step (by repeat (first | (with_reducible first | exact HB.out | apply below_alloc | apply pw_below_drewN | apply below_drew1) | exact HB.out)) hb); clear HO304; clear HO308; clear HB; have HO304 := n0_; have HO308 := n1_; have HO311 := n2_; have HB := n3_; clear n0_ n1_ n2_ n3_; (try clear hb); (try clear hb2); (try clear hk); (try clear hi); (try clear ho0); obtain ⟨Ao13, co13, eo13⟩ := Kd.R_slice HO311.out; subst eo13) | ((with_reducible refine gate_callee (f := 20) rfl ?_); refine goesL_ (some 30) rfl rfl Try.func20 (by kernel_rfl) rfl #[.int .i64 a0, .slice Ao13 t309.length co13] rfl (by (try simp only [List.map_toArray, List.map_cons, List.map_nil]); first | done | rfl | (simp only [List.length_drop, List.length_take]; rfl)) ?_; (with_reducible refine (impl_Shares.calls k a0 _ _ t309 t312 t313 _ ?side1 ?side2 A7.out).mono ?_); (case side1 => repeat (first | exact (Kd.R_reads' HO311.out).2.2 | (with_reducible refine Kd.C_alloc ?_ _) | (with_reducible refine Kd.C_drewN ?_ _) | (with_reducible refine Kd.C_drew ?_))); (case side2 => exact (Kd.R_reads' HO311.out).2.1); rintro e w14 ⟨v314, rfl, ho0, hb⟩; refine ⟨_, rfl, ?_⟩; have n0_ := Aside0.mk (Kd.R_elder' (by (with_reducible repeat (first | apply Kd.R_alloc | apply Kd.R_drewN | apply Kd.R_drew)); exact HO304.out) (Kd.R_base ho0) hb); have n1_ := Aside0.mk (Kd.R_elder' (by (with_reducible repeat (first | apply Kd.R_alloc | apply Kd.R_drewN | apply Kd.R_drew)); exact HO308.out) (Kd.R_base ho0) hb); have n2_ := Aside0.mk (Kd.R_elder' (by (with_reducible repeat (first | apply Kd.R_alloc | apply Kd.R_drewN | apply Kd.R_drew)); exact HO311.out) (Kd.R_base ho0) hb); have n3_ := Aside0.mk (Kd.R_lower (Kd.R_new' (Kd.R_new' (Kd.R_new' ho0 (Kd.R_lt (by (with_reducible repeat (first | apply Kd.R_alloc | apply Kd.R_drewN | apply Kd.R_drew)); exact HO304.out))) (Kd.R_lt (by (with_reducible repeat (first | apply Kd.R_alloc | apply Kd.R_drewN | apply Kd.R_drew)); exact HO308.out))) (Kd.R_lt (by (with_reducible repeat (first | apply Kd.R_alloc | apply Kd.R_drewN | apply Kd.R_drew)); exact HO311.out))) (below_size (by repeat (first | (with_reducible first | exact HB.out | apply below_alloc | apply pw_below_drewN | apply below_drew1) | exact HB.out)))); have n4_ := Aside0.mk (below_step (by repeat (first | (with_reducible first | exact HB.out | apply below_alloc | apply pw_below_drewN | apply below_drew1) | exact HB.out)) hb); clear HO304; clear HO308; clear HO311; clear HB; have HO304 := n0_; have HO308 := n1_; have HO311 := n2_; have HO315 := n3_; have HB := n4_; clear n0_ n1_ n2_ n3_ n4_; (try clear hb); (try clear hb2); (try clear hk); (try clear hi); (try clear ho0)))
  (try simp only [Act.put, List.setIfInBounds_toArray, List.set_cons_zero, List.set_cons_succ])
  go_cut [41] (fun v41 wc => ∃ (kq : Nat) (x41_7 : Bool), v41 = .bool x41_7 ∧ Aside0 (laws_FnExactShares.j0 kq a0 l1 t305 t306 t309 t312 t313 x41_7 = some r) ∧ Aside0 (kq ≤ k) ∧ Aside0 (Kd.R (Kd.int .i64) 3 wc w.heap.size (fun k_ => some k_ ≠ ((.slice Ao13 t309.length co13) : Value).ownBlock ∧ some k_ ≠ (v314 : Value).ownBlock) v307 t305) ∧ Aside0 (Kd.R (Kd.int .i64) 3 wc w.heap.size (fun k_ => some k_ ≠ (v307 : Value).ownBlock ∧ some k_ ≠ (v314 : Value).ownBlock) (.slice Ao13 t309.length co13) t309) ∧ Aside0 (Kd.R (Kd.int .i64) 3 wc w.heap.size (fun k_ => some k_ ≠ (v307 : Value).ownBlock ∧ some k_ ≠ ((.slice Ao13 t309.length co13) : Value).ownBlock) v314 t312) ∧ Aside0 (Below w.heap.size w wc))
  case first =>
   have H := HC8.out
   clear HC8
   replace H := Option.bind_eq_some_iff.mp H
   obtain ⟨t316, A150, H⟩ := H
   replace H : (if t316 = true then (laws_FnExactShares.j0 k a0 l1 t305 t306 t309 t312 t313 (t313 != t306)) else (none)) = some r := H
   have A15 := Aside0.mk A150
   clear A150
   by_cases c16 : t316 = true
   ·
    subst c16
    have H1 : (laws_FnExactShares.j0 k a0 l1 t305 t306 t309 t312 t313 (t313 != t306)) = some r := by rw [if_pos rfl] at H; exact H
    clear H
    have H := H1
    clear H1
    have H' := Aside0.mk H
    clear H
    obtain ⟨Ao17, co17, eo17⟩ := Kd.R_slice HO315.out
    subst eo17
    obtain ⟨Ao18, co18, eo18⟩ := Kd.R_slice HO308.out
    subst eo18
    go_wp2_with (first | ((with_reducible refine gate_callee (f := 12) rfl ?_); refine goesL_ (some 35) rfl rfl Try.func12 (by kernel_rfl) rfl #[.slice Ao17 t312.length co17, .slice Ao18 t305.length co18] rfl (by (try simp only [List.map_toArray, List.map_cons, List.map_nil]); first | done | rfl | (simp only [List.length_drop, List.length_take]; rfl)) ?_; (with_reducible refine (laws_eqIntS.calls k _ _ t312 _ _ t305 true _ ?side1 ?side2 ?side3 ?side4 A15.out).mono ?_); (case side1 => repeat (first | exact (Kd.R_reads' HO315.out).2.2 | (with_reducible refine Kd.C_alloc ?_ _) | (with_reducible refine Kd.C_drewN ?_ _) | (with_reducible refine Kd.C_drew ?_))); (case side2 => exact (Kd.R_reads' HO315.out).2.1); (case side3 => repeat (first | exact (Kd.R_reads' HO308.out).2.2 | (with_reducible refine Kd.C_alloc ?_ _) | (with_reducible refine Kd.C_drewN ?_ _) | (with_reducible refine Kd.C_drew ?_))); (case side4 => exact (Kd.R_reads' HO308.out).2.1); rintro e w' ⟨rfl, ⟨nd, rfl⟩⟩; refine ⟨_, rfl, ?_⟩))
    go_meet
    case rel => exact ⟨_, ((t313 != t306)), (by first | rfl | (simp; done) | (simp [*]; done)), H', ⟨by first | omega | exact Nat.le_refl _⟩, ⟨by (with_reducible repeat (first | apply Kd.R_alloc | apply Kd.R_drewN | apply Kd.R_drew)); exact Kd.R_mono HO308.out (fun _ hk => ⟨hk.1.2, hk.2⟩)⟩, ⟨by (with_reducible repeat (first | apply Kd.R_alloc | apply Kd.R_drewN | apply Kd.R_drew)); exact Kd.R_mono HO311.out (fun _ hk => ⟨hk.1.2, hk.2⟩)⟩, ⟨by (with_reducible repeat (first | apply Kd.R_alloc | apply Kd.R_drewN | apply Kd.R_drew)); exact Kd.R_mono HO315.out (fun _ hk => ⟨hk.1.2, hk.2⟩)⟩, ⟨by repeat (first | (with_reducible first | exact HB.out | apply below_alloc | apply pw_below_drewN | apply below_drew1) | exact HB.out)⟩⟩
   ·
    replace c16 := Bool.eq_false_iff.mpr c16
    subst c16
    have H1 : (none) = some r := by rw [if_neg (show ¬ (false = true) by decide)] at H; exact H
    clear H
    have H := H1
    clear H1
    exact absurd H (by simp)
  case rest =>
   clear HC8
   try clear c1
   try clear c2
   try clear p2
   try clear c3
   try clear c3b0
   try clear c3b1
   try clear c6
   try clear c10
   try clear c12
   try clear c16
   obtain ⟨kq, x41_7, rfl, HA, HJ7, HO_5, HO_7, HO_8, HB⟩ := hcut
   cases kq with
   | zero => exact absurd HA.out (by simp [laws_FnExactShares.j0])
   | succ kj7 =>
    have H := HA.out
    clear HA
    simp only [laws_FnExactShares.j0] at H
    by_cases c19 : x41_7 = true
    ·
     subst c19
     have H1 : (none) = some r := by rw [if_pos rfl] at H; exact H
     clear H
     have H := H1
     clear H1
     exact absurd H (by simp)
    ·
     replace c19 := Bool.eq_false_iff.mpr c19
     subst c19
     have H1 : ((laws_toIntS.f kj7 l1).bind fun t317 => ((laws_eqIntS.f kj7 t309 t317).bind fun t320 => (if t320 = true then ((laws_markIntS.f kj7 t309 1).bind fun bt321 => (if bt321.1 < 0 then (none) else ((laws_eqIntS.f kj7 t312 t305).bind fun t323 => (if t323 = true then (laws_FnExactShares.j1 kj7 a0 l1 t305 t306 t312 (t313 != t306)) else (none))))) else (none)))) = some r := by rw [if_neg (show ¬ (false = true) by decide)] at H; exact H
     clear H
     have H := H1
     clear H1
     replace H := Option.bind_eq_some_iff.mp H
     obtain ⟨t317, A200, H⟩ := H
     replace H : ((laws_eqIntS.f kj7 t309 t317).bind fun t320 => (if t320 = true then ((laws_markIntS.f kj7 t309 1).bind fun bt321 => (if bt321.1 < 0 then (none) else ((laws_eqIntS.f kj7 t312 t305).bind fun t323 => (if t323 = true then (laws_FnExactShares.j1 kj7 a0 l1 t305 t306 t312 (t313 != t306)) else (none))))) else (none))) = some r := H
     have A20 := Aside0.mk A200
     clear A200
     replace H := Option.bind_eq_some_iff.mp H
     obtain ⟨t320, A210, H⟩ := H
     replace H : (if t320 = true then ((laws_markIntS.f kj7 t309 1).bind fun bt321 => (if bt321.1 < 0 then (none) else ((laws_eqIntS.f kj7 t312 t305).bind fun t323 => (if t323 = true then (laws_FnExactShares.j1 kj7 a0 l1 t305 t306 t312 (t313 != t306)) else (none))))) else (none)) = some r := H
     have A21 := Aside0.mk A210
     clear A210
     by_cases c22 : t320 = true
     ·
      subst c22
      have H1 : ((laws_markIntS.f kj7 t309 1).bind fun bt321 => (if bt321.1 < 0 then (none) else ((laws_eqIntS.f kj7 t312 t305).bind fun t323 => (if t323 = true then (laws_FnExactShares.j1 kj7 a0 l1 t305 t306 t312 (t313 != t306)) else (none))))) = some r := by rw [if_pos rfl] at H; exact H
      clear H
      have H := H1
      clear H1
      replace H := Option.bind_eq_some_iff.mp H
      obtain ⟨⟨t321, t322⟩, A230, H⟩ := H
      replace H : (if t321 < 0 then (none) else ((laws_eqIntS.f kj7 t312 t305).bind fun t323 => (if t323 = true then (laws_FnExactShares.j1 kj7 a0 l1 t305 t306 t312 (t313 != t306)) else (none)))) = some r := H
      have A23 := Aside0.mk A230
      clear A230
      have HC24 := Aside0.mk H
      clear H
      go_upto_region 12 with (first | ((with_reducible refine gate_callee (f := 10) rfl ?_); refine goesL_ (some 44) rfl rfl Try.func10 (by kernel_rfl) rfl #[.slice A1 l1.length c1] rfl (by (try simp only [List.map_toArray, List.map_cons, List.map_nil]); first | done | rfl | (simp only [List.length_drop, List.length_take]; rfl)) ?_; (with_reducible refine (laws_toIntS.calls kj7 _ _ l1 t317 _ ?side1 ?side2 A20.out).mono ?_); (case side1 => repeat (first | exact (Kd.C_below HR1.out HB.out) | (with_reducible refine Kd.C_alloc ?_ _) | (with_reducible refine Kd.C_drewN ?_ _) | (with_reducible refine Kd.C_drew ?_))); (case side2 => exact HC1.out); rintro e w25 ⟨v318, rfl, ho0, hb⟩; refine ⟨_, rfl, ?_⟩; have n0_ := Aside0.mk (Kd.R_elder' (by (with_reducible repeat (first | apply Kd.R_alloc | apply Kd.R_drewN | apply Kd.R_drew)); exact HO_5.out) (Kd.R_base ho0) hb); have n1_ := Aside0.mk (Kd.R_elder' (by (with_reducible repeat (first | apply Kd.R_alloc | apply Kd.R_drewN | apply Kd.R_drew)); exact HO_7.out) (Kd.R_base ho0) hb); have n2_ := Aside0.mk (Kd.R_elder' (by (with_reducible repeat (first | apply Kd.R_alloc | apply Kd.R_drewN | apply Kd.R_drew)); exact HO_8.out) (Kd.R_base ho0) hb); have n3_ := Aside0.mk (Kd.R_lower (Kd.R_new' (Kd.R_new' (Kd.R_new' ho0 (Kd.R_lt (by (with_reducible repeat (first | apply Kd.R_alloc | apply Kd.R_drewN | apply Kd.R_drew)); exact HO_5.out))) (Kd.R_lt (by (with_reducible repeat (first | apply Kd.R_alloc | apply Kd.R_drewN | apply Kd.R_drew)); exact HO_7.out))) (Kd.R_lt (by (with_reducible repeat (first | apply Kd.R_alloc | apply Kd.R_drewN | apply Kd.R_drew)); exact HO_8.out))) (below_size (by repeat (first | (with_reducible first | exact HB.out | apply below_alloc | apply pw_below_drewN | apply below_drew1) | exact HB.out)))); have n4_ := Aside0.mk (below_step (by repeat (first | (with_reducible first | exact HB.out | apply below_alloc | apply pw_below_drewN | apply below_drew1) | exact HB.out)) hb); clear HO_5; clear HO_7; clear HO_8; clear HB; have HO_5 := n0_; have HO_7 := n1_; have HO_8 := n2_; have HO319 := n3_; have HB := n4_; clear n0_ n1_ n2_ n3_ n4_; (try clear hb); (try clear hb2); (try clear hk); (try clear hi); (try clear ho0); obtain ⟨Ao26, co26, eo26⟩ := Kd.R_slice HO319.out; subst eo26) | ((with_reducible refine gate_callee (f := 12) rfl ?_); refine goesL_ (some 45) rfl rfl Try.func12 (by kernel_rfl) rfl #[.slice Ao13 t309.length co13, .slice Ao26 t317.length co26] rfl (by (try simp only [List.map_toArray, List.map_cons, List.map_nil]); first | done | rfl | (simp only [List.length_drop, List.length_take]; rfl)) ?_; (with_reducible refine (laws_eqIntS.calls kj7 _ _ t309 _ _ t317 true _ ?side1 ?side2 ?side3 ?side4 A21.out).mono ?_); (case side1 => repeat (first | exact (Kd.R_reads' HO_7.out).2.2 | (with_reducible refine Kd.C_alloc ?_ _) | (with_reducible refine Kd.C_drewN ?_ _) | (with_reducible refine Kd.C_drew ?_))); (case side2 => exact (Kd.R_reads' HO_7.out).2.1); (case side3 => repeat (first | exact (Kd.R_reads' HO319.out).2.2 | (with_reducible refine Kd.C_alloc ?_ _) | (with_reducible refine Kd.C_drewN ?_ _) | (with_reducible refine Kd.C_drew ?_))); (case side4 => exact (Kd.R_reads' HO319.out).2.1); rintro e w' ⟨rfl, ⟨nd, rfl⟩⟩; refine ⟨_, rfl, ?_⟩) | ((with_reducible refine gate_callee (f := 17) rfl ?_); refine goesL_ (some 49) rfl rfl Try.func17 (by kernel_rfl) rfl #[.slice Ao13 t309.length co13, .int .i64 1] rfl (by (try simp only [List.map_toArray, List.map_cons, List.map_nil]); first | done | rfl | (simp only [List.length_drop, List.length_take]; rfl)) ?_; (with_reducible refine (laws_markIntS.calls kj7 (fun k_ => some k_ = (.slice Ao13 t309.length co13 : Value).ownBlock) (.slice Ao13 t309.length co13) t309 1 t321 t322 w _ ?side1 ?side2 A23.out).mono ?_); (case side1 => repeat (first | (with_reducible first | exact HB.out | apply below_alloc | apply pw_below_drewN | apply below_drew1) | exact HB.out)); (case side2 => exact Kd.R_tight rfl HO_7.out); rintro e w27 ⟨rfl, hy0, hb, hkp⟩; refine ⟨_, rfl, ?_⟩; have n0_ := Aside0.mk (Kd.R_mono (ok' := fun k_ => some k_ ≠ (.slice Ao13 t309.length co13 : Value).ownBlock ∧ some k_ ≠ (v314 : Value).ownBlock ∧ some k_ ≠ (.slice Ao26 t317.length co26 : Value).ownBlock) (Kd.R_keptB (HO_5.out) hkp (fun k_ hk_ hs_ => (hk_.1.1) hs_)) (fun k_ hk_ => ⟨hk_.1.1.1, hk_.1.1.2, hk_.1.2⟩)); have n1_ := Aside0.mk (Kd.R_reok rfl hy0 (fun k_ e_ => HO_7.out.1 k_ e_)); have n2_ := Aside0.mk (Kd.R_mono (ok' := fun k_ => some k_ ≠ (v307 : Value).ownBlock ∧ some k_ ≠ (.slice Ao13 t309.length co13 : Value).ownBlock ∧ some k_ ≠ (.slice Ao26 t317.length co26 : Value).ownBlock) (Kd.R_keptB (HO_8.out) hkp (fun k_ hk_ hs_ => (hk_.1.2) hs_)) (fun k_ hk_ => ⟨hk_.1.1.1, hk_.1.1.2, hk_.1.2⟩)); have n3_ := Aside0.mk (Kd.R_mono (ok' := fun k_ => some k_ ≠ (v307 : Value).ownBlock ∧ some k_ ≠ (.slice Ao13 t309.length co13 : Value).ownBlock ∧ some k_ ≠ (v314 : Value).ownBlock) (Kd.R_keptB (HO319.out) hkp (fun k_ hk_ hs_ => (hk_.1.2) hs_)) (fun k_ hk_ => ⟨hk_.1.1.1.2, hk_.1.1.2, hk_.1.2⟩)); have n4_ := Aside0.mk (hb); clear HO_5; clear HO_7; clear HO_8; clear HO319; clear HB; have HO_5 := n0_; have HO_7 := n1_; have HO_8 := n2_; have HO319 := n3_; have HB := n4_; clear n0_ n1_ n2_ n3_ n4_; (try clear hb); (try clear hkp); (try clear hy0)))
      (try simp only [Act.put, List.setIfInBounds_toArray, List.set_cons_zero, List.set_cons_succ])
      go_cut [62] (fun v62 wc => ∃ (kq : Nat) (x62_23 : Bool), v62 = .bool x62_23 ∧ Aside0 (laws_FnExactShares.j1 kq a0 l1 t305 t306 t312 x62_23 = some r) ∧ Aside0 (kq ≤ kj7) ∧ Aside0 (Kd.R (Kd.int .i64) 3 wc w.heap.size (fun k_ => some k_ ≠ (v314 : Value).ownBlock) v307 t305) ∧ Aside0 (Kd.R (Kd.int .i64) 3 wc w.heap.size (fun k_ => some k_ ≠ (v307 : Value).ownBlock) v314 t312) ∧ Aside0 (Below w.heap.size w wc))
      case first =>
       have H := HC24.out
       clear HC24
       by_cases c28 : t321 < 0
       ·
        rw [if_pos c28] at H
        exact absurd H (by simp)
       ·
        rw [if_neg c28] at H
        have c28b0 : decide (t321 < 0) = false := decide_eq_false c28
        clear c28
        (first | rw [c28b0] | (simp only [i64_w, i32_w]; rw [c28b0]) | skip)
        replace H := Option.bind_eq_some_iff.mp H
        obtain ⟨t323, A290, H⟩ := H
        replace H : (if t323 = true then (laws_FnExactShares.j1 kj7 a0 l1 t305 t306 t312 (t313 != t306)) else (none)) = some r := H
        have A29 := Aside0.mk A290
        clear A290
        by_cases c30 : t323 = true
        ·
         subst c30
         have H1 : (laws_FnExactShares.j1 kj7 a0 l1 t305 t306 t312 (t313 != t306)) = some r := by rw [if_pos rfl] at H; exact H
         clear H
         have H := H1
         clear H1
         have H' := Aside0.mk H
         clear H
         obtain ⟨Ao31, co31, eo31⟩ := Kd.R_slice HO_8.out
         subst eo31
         obtain ⟨Ao32, co32, eo32⟩ := Kd.R_slice HO_5.out
         subst eo32
         go_wp2_with (first | (go_at_call 12; (with_reducible refine (laws_eqIntS.calls kj7 _ _ t312 _ _ t305 true _ ?side1 ?side2 ?side3 ?side4 A29.out).mono ?_); (case side1 => repeat (first | exact (Kd.R_reads' HO_8.out).2.2 | (with_reducible refine Kd.C_alloc ?_ _) | (with_reducible refine Kd.C_drewN ?_ _) | (with_reducible refine Kd.C_drew ?_))); (case side2 => exact (Kd.R_reads' HO_8.out).2.1); (case side3 => repeat (first | exact (Kd.R_reads' HO_5.out).2.2 | (with_reducible refine Kd.C_alloc ?_ _) | (with_reducible refine Kd.C_drewN ?_ _) | (with_reducible refine Kd.C_drew ?_))); (case side4 => exact (Kd.R_reads' HO_5.out).2.1); rintro e w' ⟨rfl, ⟨nd, rfl⟩⟩))
         go_meet
         case rel => exact ⟨_, ((t313 != t306)), (by first | rfl | (simp; done) | (simp [*]; done)), H', ⟨by have := HJ7.out; first | omega | exact Nat.le_refl _⟩, ⟨by (with_reducible repeat (first | apply Kd.R_alloc | apply Kd.R_drewN | apply Kd.R_drew)); exact Kd.R_mono HO_5.out (fun _ hk => hk.2.1)⟩, ⟨by (with_reducible repeat (first | apply Kd.R_alloc | apply Kd.R_drewN | apply Kd.R_drew)); exact Kd.R_mono HO_8.out (fun _ hk => hk.1)⟩, ⟨by repeat (first | (with_reducible first | exact HB.out | apply below_alloc | apply pw_below_drewN | apply below_drew1) | exact HB.out)⟩⟩
        ·
         replace c30 := Bool.eq_false_iff.mpr c30
         subst c30
         have H1 : (none) = some r := by rw [if_neg (show ¬ (false = true) by decide)] at H; exact H
         clear H
         have H := H1
         clear H1
         exact absurd H (by simp)
      case rest =>
       clear HC24
       try clear c1
       try clear c2
       try clear p2
       try clear c3
       try clear c3b0
       try clear c3b1
       try clear c6
       try clear c10
       try clear c12
       try clear c16
       try clear c17
       try clear c19
       try clear c20
       try clear c22
       try clear c28
       try clear c28b0
       try clear c30
       try clear p2
       obtain ⟨kq, x62_23, rfl, HA, HJ23, HO_5, HO_8, HB⟩ := hcut
       cases kq with
       | zero => exact absurd HA.out (by simp [laws_FnExactShares.j1])
       | succ kj23 =>
        have H := HA.out
        clear HA
        simp only [laws_FnExactShares.j1] at H
        by_cases c33 : x62_23 = true
        ·
         subst c33
         have H1 : (none) = some r := by rw [if_pos rfl] at H; exact H
         clear H
         have H := H1
         clear H1
         exact absurd H (by simp)
        ·
         replace c33 := Bool.eq_false_iff.mpr c33
         subst c33
         have H1 : ((laws_markIntS.f kj23 t312 1).bind fun bt324 => ((laws_heldIntS.f kj23 bt324.2 1).bind fun t326 => (if t326 < 0 then (none) else (if t326 = bt324.1 then ((laws_toIntS.f kj23 l1).bind fun t327 => ((impl_Shares.f kj23 a0 t327).bind fun bt330 => ((laws_eqIntS.f kj23 bt330.1 t305).bind fun t334 => (if t334 = true then (laws_FnExactShares.j2 kj23 bt324.2 bt324.1 (bt330.2 != t306)) else (none))))) else (none))))) = some r := by rw [if_neg (show ¬ (false = true) by decide)] at H; exact H
         clear H
         have H := H1
         clear H1
         replace H := Option.bind_eq_some_iff.mp H
         obtain ⟨⟨t324, t325⟩, A340, H⟩ := H
         replace H : ((laws_heldIntS.f kj23 t325 1).bind fun t326 => (if t326 < 0 then (none) else (if t326 = t324 then ((laws_toIntS.f kj23 l1).bind fun t327 => ((impl_Shares.f kj23 a0 t327).bind fun bt330 => ((laws_eqIntS.f kj23 bt330.1 t305).bind fun t334 => (if t334 = true then (laws_FnExactShares.j2 kj23 t325 t324 (bt330.2 != t306)) else (none))))) else (none)))) = some r := H
         have A34 := Aside0.mk A340
         clear A340
         replace H := Option.bind_eq_some_iff.mp H
         obtain ⟨t326, A350, H⟩ := H
         replace H : (if t326 < 0 then (none) else (if t326 = t324 then ((laws_toIntS.f kj23 l1).bind fun t327 => ((impl_Shares.f kj23 a0 t327).bind fun bt330 => ((laws_eqIntS.f kj23 bt330.1 t305).bind fun t334 => (if t334 = true then (laws_FnExactShares.j2 kj23 t325 t324 (bt330.2 != t306)) else (none))))) else (none))) = some r := H
         have A35 := Aside0.mk A350
         clear A350
         by_cases c36 : t326 < 0
         ·
          rw [if_pos c36] at H
          exact absurd H (by simp)
         ·
          rw [if_neg c36] at H
          have c36b0 : decide (t326 < 0) = false := decide_eq_false c36
          clear c36
          by_cases c37 : t326 = t324
          ·
           rw [if_pos c37] at H
           have c37b0 : (t326 == t324) = true := beq_iff_eq.mpr c37
           have c37b1 : (t326 != t324) = false := bne_eq_false_iff_eq.mpr c37
           clear c37
           replace H := Option.bind_eq_some_iff.mp H
           obtain ⟨t327, A380, H⟩ := H
           replace H : ((impl_Shares.f kj23 a0 t327).bind fun bt330 => ((laws_eqIntS.f kj23 bt330.1 t305).bind fun t334 => (if t334 = true then (laws_FnExactShares.j2 kj23 t325 t324 (bt330.2 != t306)) else (none)))) = some r := H
           have A38 := Aside0.mk A380
           clear A380
           replace H := Option.bind_eq_some_iff.mp H
           obtain ⟨⟨t330, t331⟩, A390, H⟩ := H
           replace H : ((laws_eqIntS.f kj23 t330 t305).bind fun t334 => (if t334 = true then (laws_FnExactShares.j2 kj23 t325 t324 (t331 != t306)) else (none))) = some r := H
           have A39 := Aside0.mk A390
           clear A390
           have HC40 := Aside0.mk H
           clear H
           obtain ⟨Ao41, co41, eo41⟩ := Kd.R_slice HO_8.out
           subst eo41
           go_upto_region 23 with (first | ((with_reducible refine gate_callee (f := 17) rfl ?_); refine goesL_ (some 65) rfl rfl Try.func17 (by kernel_rfl) rfl #[.slice Ao41 t312.length co41, .int .i64 1] rfl (by (try simp only [List.map_toArray, List.map_cons, List.map_nil]); first | done | rfl | (simp only [List.length_drop, List.length_take]; rfl)) ?_; (with_reducible refine (laws_markIntS.calls kj23 (fun k_ => some k_ = (.slice Ao41 t312.length co41 : Value).ownBlock) (.slice Ao41 t312.length co41) t312 1 t324 t325 w _ ?side1 ?side2 A34.out).mono ?_); (case side1 => repeat (first | (with_reducible first | exact HB.out | apply below_alloc | apply pw_below_drewN | apply below_drew1) | exact HB.out)); (case side2 => exact Kd.R_tight rfl HO_8.out); rintro e w42 ⟨rfl, hy0, hb, hkp⟩; refine ⟨_, rfl, ?_⟩; have n0_ := Aside0.mk (Kd.R_mono (ok' := fun k_ => some k_ ≠ (.slice Ao41 t312.length co41 : Value).ownBlock) (Kd.R_keptB (HO_5.out) hkp (fun k_ hk_ hs_ => (hk_) hs_)) (fun k_ hk_ => hk_.1)); have n1_ := Aside0.mk (Kd.R_reok rfl hy0 (fun k_ e_ => HO_8.out.1 k_ e_)); have n2_ := Aside0.mk (hb); clear HO_5; clear HO_8; clear HB; have HO_5 := n0_; have HO_8 := n1_; have HB := n2_; clear n0_ n1_ n2_; (try clear hb); (try clear hkp); (try clear hy0)) | ((with_reducible refine gate_callee (f := 18) rfl ?_); refine goesL_ (some 68) rfl rfl Try.func18 (by kernel_rfl) rfl #[.slice Ao41 t325.length co41, .int .i64 1] rfl (by (try simp only [List.map_toArray, List.map_cons, List.map_nil]); first | done | (rw [show t325.length = t312.length from (Kd.R_reads' HO_8.out).1.symm] <;> rfl) | rfl | (simp only [List.length_drop, List.length_take]; rfl)) ?_; (with_reducible refine (laws_heldIntS.calls kj23 _ _ t325 1 t326 _ ?side1 ?side2 A35.out).mono ?_); (case side1 => repeat (first | exact (Kd.R_reads' HO_8.out).2.2 | (with_reducible refine Kd.C_alloc ?_ _) | (with_reducible refine Kd.C_drewN ?_ _) | (with_reducible refine Kd.C_drew ?_))); (case side2 => rw [show t325.length = t312.length from (Kd.R_reads' HO_8.out).1.symm]; exact (Kd.R_reads' HO_8.out).2.1); rintro e w' ⟨rfl, ⟨nd, rfl⟩⟩; refine ⟨_, rfl, ?_⟩) | ((with_reducible refine gate_callee (f := 10) rfl ?_); refine goesL_ (some 77) rfl rfl Try.func10 (by kernel_rfl) rfl #[.slice A1 l1.length c1] rfl (by (try simp only [List.map_toArray, List.map_cons, List.map_nil]); first | done | rfl | (simp only [List.length_drop, List.length_take]; rfl)) ?_; (with_reducible refine (laws_toIntS.calls kj23 _ _ l1 t327 _ ?side1 ?side2 A38.out).mono ?_); (case side1 => repeat (first | exact (Kd.C_below HR1.out (by repeat (first | (with_reducible first | exact HB.out | apply below_alloc | apply pw_below_drewN | apply below_drew1) | exact HB.out))) | (with_reducible refine Kd.C_alloc ?_ _) | (with_reducible refine Kd.C_drewN ?_ _) | (with_reducible refine Kd.C_drew ?_))); (case side2 => exact HC1.out); rintro e w43 ⟨v328, rfl, ho0, hb⟩; refine ⟨_, rfl, ?_⟩; have n0_ := Aside0.mk (Kd.R_elder' (by (with_reducible repeat (first | apply Kd.R_alloc | apply Kd.R_drewN | apply Kd.R_drew)); exact HO_5.out) (Kd.R_base ho0) hb); have n1_ := Aside0.mk (Kd.R_elder' (by (with_reducible repeat (first | apply Kd.R_alloc | apply Kd.R_drewN | apply Kd.R_drew)); exact HO_8.out) (Kd.R_base ho0) hb); have n2_ := Aside0.mk (Kd.R_lower (Kd.R_new' (Kd.R_new' ho0 (Kd.R_lt (by (with_reducible repeat (first | apply Kd.R_alloc | apply Kd.R_drewN | apply Kd.R_drew)); exact HO_5.out))) (Kd.R_lt (by (with_reducible repeat (first | apply Kd.R_alloc | apply Kd.R_drewN | apply Kd.R_drew)); exact HO_8.out))) (below_size (by repeat (first | (with_reducible first | exact HB.out | apply below_alloc | apply pw_below_drewN | apply below_drew1) | exact HB.out)))); have n3_ := Aside0.mk (below_step (by repeat (first | (with_reducible first | exact HB.out | apply below_alloc | apply pw_below_drewN | apply below_drew1) | exact HB.out)) hb); clear HO_5; clear HO_8; clear HB; have HO_5 := n0_; have HO_8 := n1_; have HO329 := n2_; have HB := n3_; clear n0_ n1_ n2_ n3_; (try clear hb); (try clear hb2); (try clear hk); (try clear hi); (try clear ho0); obtain ⟨Ao44, co44, eo44⟩ := Kd.R_slice HO329.out; subst eo44) | ((with_reducible refine gate_callee (f := 20) rfl ?_); refine goesL_ (some 78) rfl rfl Try.func20 (by kernel_rfl) rfl #[.int .i64 a0, .slice Ao44 t327.length co44] rfl (by (try simp only [List.map_toArray, List.map_cons, List.map_nil]); first | done | rfl | (simp only [List.length_drop, List.length_take]; rfl)) ?_; (with_reducible refine (impl_Shares.calls kj23 a0 _ _ t327 t330 t331 _ ?side1 ?side2 A39.out).mono ?_); (case side1 => repeat (first | exact (Kd.R_reads' HO329.out).2.2 | (with_reducible refine Kd.C_alloc ?_ _) | (with_reducible refine Kd.C_drewN ?_ _) | (with_reducible refine Kd.C_drew ?_))); (case side2 => exact (Kd.R_reads' HO329.out).2.1); rintro e w45 ⟨v332, rfl, ho0, hb⟩; refine ⟨_, rfl, ?_⟩; have n0_ := Aside0.mk (Kd.R_elder' (by (with_reducible repeat (first | apply Kd.R_alloc | apply Kd.R_drewN | apply Kd.R_drew)); exact HO_5.out) (Kd.R_base ho0) hb); have n1_ := Aside0.mk (Kd.R_elder' (by (with_reducible repeat (first | apply Kd.R_alloc | apply Kd.R_drewN | apply Kd.R_drew)); exact HO_8.out) (Kd.R_base ho0) hb); have n2_ := Aside0.mk (Kd.R_elder' (by (with_reducible repeat (first | apply Kd.R_alloc | apply Kd.R_drewN | apply Kd.R_drew)); exact HO329.out) (Kd.R_base ho0) hb); have n3_ := Aside0.mk (Kd.R_lower (Kd.R_new' (Kd.R_new' (Kd.R_new' ho0 (Kd.R_lt (by (with_reducible repeat (first | apply Kd.R_alloc | apply Kd.R_drewN | apply Kd.R_drew)); exact HO_5.out))) (Kd.R_lt (by (with_reducible repeat (first | apply Kd.R_alloc | apply Kd.R_drewN | apply Kd.R_drew)); exact HO_8.out))) (Kd.R_lt (by (with_reducible repeat (first | apply Kd.R_alloc | apply Kd.R_drewN | apply Kd.R_drew)); exact HO329.out))) (below_size (by repeat (first | (with_reducible first | exact HB.out | apply below_alloc | apply pw_below_drewN | apply below_drew1) | exact HB.out)))); have n4_ := Aside0.mk (below_step (by repeat (first | (with_reducible first | exact HB.out | apply below_alloc | apply pw_below_drewN | apply below_drew1) | exact HB.out)) hb); clear HO_5; clear HO_8; clear HO329; clear HB; have HO_5 := n0_; have HO_8 := n1_; have HO329 := n2_; have HO333 := n3_; have HB := n4_; clear n0_ n1_ n2_ n3_ n4_; (try clear hb); (try clear hb2); (try clear hk); (try clear hi); (try clear ho0)))
           (try simp only [Act.put, List.setIfInBounds_toArray, List.set_cons_zero, List.set_cons_succ])
           go_cut [89] (fun v89 wc => ∃ (kq : Nat) (x89_39 : Bool), v89 = .bool x89_39 ∧ Aside0 (laws_FnExactShares.j2 kq t325 t324 x89_39 = some r) ∧ Aside0 (kq ≤ kj23) ∧ Aside0 (Kd.R (Kd.int .i64) 3 wc w.heap.size (fun _ => True) (.slice Ao41 t312.length co41) t325) ∧ Aside0 (Below w.heap.size w wc))
           case first =>
            have H := HC40.out
            clear HC40
            replace H := Option.bind_eq_some_iff.mp H
            obtain ⟨t334, A460, H⟩ := H
            replace H : (if t334 = true then (laws_FnExactShares.j2 kj23 t325 t324 (t331 != t306)) else (none)) = some r := H
            have A46 := Aside0.mk A460
            clear A460
            by_cases c47 : t334 = true
            ·
             subst c47
             have H1 : (laws_FnExactShares.j2 kj23 t325 t324 (t331 != t306)) = some r := by rw [if_pos rfl] at H; exact H
             clear H
             have H := H1
             clear H1
             have H' := Aside0.mk H
             clear H
             obtain ⟨Ao48, co48, eo48⟩ := Kd.R_slice HO333.out
             subst eo48
             obtain ⟨Ao49, co49, eo49⟩ := Kd.R_slice HO_5.out
             subst eo49
             go_wp2_with (first | ((with_reducible refine gate_callee (f := 12) rfl ?_); refine goesL_ (some 83) rfl rfl Try.func12 (by kernel_rfl) rfl #[.slice Ao48 t330.length co48, .slice Ao49 t305.length co49] rfl (by (try simp only [List.map_toArray, List.map_cons, List.map_nil]); first | done | rfl | (simp only [List.length_drop, List.length_take]; rfl)) ?_; (with_reducible refine (laws_eqIntS.calls kj23 _ _ t330 _ _ t305 true _ ?side1 ?side2 ?side3 ?side4 A46.out).mono ?_); (case side1 => repeat (first | exact (Kd.R_reads' HO333.out).2.2 | (with_reducible refine Kd.C_alloc ?_ _) | (with_reducible refine Kd.C_drewN ?_ _) | (with_reducible refine Kd.C_drew ?_))); (case side2 => exact (Kd.R_reads' HO333.out).2.1); (case side3 => repeat (first | exact (Kd.R_reads' HO_5.out).2.2 | (with_reducible refine Kd.C_alloc ?_ _) | (with_reducible refine Kd.C_drewN ?_ _) | (with_reducible refine Kd.C_drew ?_))); (case side4 => exact (Kd.R_reads' HO_5.out).2.1); rintro e w' ⟨rfl, ⟨nd, rfl⟩⟩; refine ⟨_, rfl, ?_⟩))
             go_meet
             case rel => exact ⟨_, ((t331 != t306)), (by first | rfl | (simp; done) | (simp [*]; done)), H', ⟨by have := HJ7.out; have := HJ23.out; first | omega | exact Nat.le_refl _⟩, ⟨by (with_reducible repeat (first | apply Kd.R_alloc | apply Kd.R_drewN | apply Kd.R_drew)); exact Kd.R_mono HO_8.out (fun _ hk => trivial)⟩, ⟨by repeat (first | (with_reducible first | exact HB.out | apply below_alloc | apply pw_below_drewN | apply below_drew1) | exact HB.out)⟩⟩
            ·
             replace c47 := Bool.eq_false_iff.mpr c47
             subst c47
             have H1 : (none) = some r := by rw [if_neg (show ¬ (false = true) by decide)] at H; exact H
             clear H
             have H := H1
             clear H1
             exact absurd H (by simp)
           case rest =>
            clear HC40
            try clear c1
            try clear c2
            try clear p2
            try clear c3
            try clear c3b0
            try clear c3b1
            try clear c4
            try clear c6
            try clear c10
            try clear c12
            try clear c16
            try clear c17
            try clear c18
            try clear c19
            try clear c20
            try clear c22
            try clear c28
            try clear c28b0
            try clear c30
            try clear c33
            try clear c36
            try clear c36b0
            try clear c37
            try clear c37b0
            try clear c37b1
            try clear c47
            try clear p2
            obtain ⟨kq, x89_39, rfl, HA, HJ39, HO_8, HB⟩ := hcut
            have hl8_39 := (Kd.R_reads' HO_8.out).1
            rw [hl8_39] at HO_8
            (try simp only [hl8_39])
            cases kq with
            | zero => exact absurd HA.out (by simp [laws_FnExactShares.j2])
            | succ kj39 =>
             have H := HA.out
             clear HA
             simp only [laws_FnExactShares.j2] at H
             by_cases c50 : x89_39 = true
             ·
              subst c50
              have H1 : (none) = some r := by rw [if_pos rfl] at H; exact H
              clear H
              have H := H1
              clear H1
              exact absurd H (by simp)
             ·
              replace c50 := Bool.eq_false_iff.mpr c50
              subst c50
              have H1 : ((laws_heldIntS.f kj39 t325 1).bind fun t335 => (if t335 < 0 then (none) else (if t335 = t324 then (some true) else (none)))) = some r := by rw [if_neg (show ¬ (false = true) by decide)] at H; exact H
              clear H
              have H := H1
              clear H1
              replace H := Option.bind_eq_some_iff.mp H
              obtain ⟨t335, A510, H⟩ := H
              replace H : (if t335 < 0 then (none) else (if t335 = t324 then (some true) else (none))) = some r := H
              have A51 := Aside0.mk A510
              clear A510
              by_cases c52 : t335 < 0
              ·
               rw [if_pos c52] at H
               exact absurd H (by simp)
              ·
               rw [if_neg c52] at H
               have c52b0 : decide (t335 < 0) = false := decide_eq_false c52
               clear c52
               by_cases c53 : t335 = t324
               ·
                rw [if_pos c53] at H
                have c53b0 : (t335 == t324) = true := beq_iff_eq.mpr c53
                have c53b1 : (t335 != t324) = false := bne_eq_false_iff_eq.mpr c53
                clear c53
                obtain rfl := Option.some.inj H
                go_wp2_with (first | ((with_reducible refine gate_callee (f := 18) rfl ?_); refine goesL_ (some 92) rfl rfl Try.func18 (by kernel_rfl) rfl #[.slice Ao41 t325.length co41, .int .i64 1] rfl (by (try simp only [List.map_toArray, List.map_cons, List.map_nil]); first | done | rfl | (simp only [List.length_drop, List.length_take]; rfl)) ?_; (with_reducible refine (laws_heldIntS.calls kj39 _ _ t325 1 t335 _ ?side1 ?side2 A51.out).mono ?_); (case side1 => repeat (first | exact (Kd.R_reads' HO_8.out).2.2 | (with_reducible refine Kd.C_alloc ?_ _) | (with_reducible refine Kd.C_drewN ?_ _) | (with_reducible refine Kd.C_drew ?_))); (case side2 => exact (Kd.R_reads' HO_8.out).2.1); rintro e w' ⟨rfl, ⟨nd, rfl⟩⟩; refine ⟨_, rfl, ?_⟩))
                go_ret
                exact ⟨by first | rfl | (simp [errW_none, errW_some] <;> rfl) | (simp [*, errW_none, errW_some] <;> rfl), by repeat (first | (with_reducible first | exact HB.out | apply below_alloc | apply pw_below_drewN | apply below_drew1) | exact HB.out)⟩
               ·
                rw [if_neg c53] at H
                exact absurd H (by simp)
          ·
           rw [if_neg c37] at H
           exact absurd H (by simp)
     ·
      replace c22 := Bool.eq_false_iff.mpr c22
      subst c22
      have H1 : (none) = some r := by rw [if_neg (show ¬ (false = true) by decide)] at H; exact H
      clear H
      have H := H1
      clear H1
      exact absurd H (by simp)
def laws_FnExactShares.Pure : Prop := ∀ (a0 : Int) (l1 : List Int), (Lit.int .i64 a0).wf = true → l1.length ≤ maxLen → l1.length * 8 ≤ 140737488351232 → (∀ x ∈ l1, (Lit.int .i64 x).wf = true) → ∃ k, laws_FnExactShares.f k a0 l1 = some true
theorem laws_FnExactShares.walk (P : laws_FnExactShares.Pure) (a0 : Int) (a1 : Option Addr) (len1 cap1 : Nat) (z1 : List Int) (w : World) (w0 : (Lit.int .i64 a0).wf = true) (w1 : (a1 = none ∧ len1 = 0 ∧ cap1 = 0 ∧ z1 = []) ∨ ∃ x, a1 = some x ∧ len1 ≤ cap1 ∧ cap1 ≤ maxLen ∧ z1.length = cap1 ∧ (∀ i, i < z1.length → w.cell? (x.add i) = some (.int .i64 (z1.getD i 0))) ∧ ∀ n ∈ z1, (Lit.int .i64 n).wf = true) (y1 : len1 * 8 ≤ 140737488351232) :
 Calls Try.prog 6 #[.int .i64 a0, .slice a1 len1 cap1] w fun e w' => e = .returned (.bool true) ∧ Below w.heap.size w w' := by
 obtain ⟨l1, rfl, hr1, hm1, hw1, hc1⟩ := ReadsInt.ofRowC w1
 obtain ⟨k, h⟩ := P a0 l1 w0 hm1 y1 hw1
 refine (laws_FnExactShares.calls k a0 _ _ l1 true w (Kd.C_of_reads (d := (0 : Int)) (h1 := fun _ => rfl) hr1) hc1 h).mono ?_
 rintro e w' ⟨rfl, hd⟩
 exact ⟨rfl, hd⟩
end Go.Proofs.Ytpnejhelandclaa.P
namespace Go.Proofs.Ytpnejhelandclaa.EV
open Go Go.RowKit Go.Proofs.YtpnejhelandclaaW.PrintWords
theorem w64_in (n : Int) (h0 : -9223372036854775808 ≤ n) (h1 : n ≤ 9223372036854775807) : wrap64 n = n := by unfold wrap64; omega
theorem w_succ {i n : Nat} (h : i < n) (hn : n ≤ 9223372036854775807) : wrap64 ((i : Int) + 1) = ((i + 1 : Nat) : Int) := by unfold wrap64; omega
theorem Ev_one {α : Type} {g : Nat → Option α} {r : α} (h : ∀ k, g (k + 1) = some r) : Ev g r := ⟨1, fun k hk => by
  obtain ⟨k, rfl⟩ : ∃ m, k = m + 1 := ⟨k - 1, by omega⟩
  exact h k⟩
theorem Ev_all_k {α : Type} {g : Nat → Option α} {r : α} (h : ∀ k, g k = some r) : Ev g r := ⟨0, fun k _ => h k⟩
theorem Ev_bind {α β : Type} {g : Nat → Option α} {f : Nat → α → Option β} {a : α} {r : β} (h : Ev g a) (k : Ev (fun n => f n a) r) : Ev (fun n => (g n).bind (f n)) r := Ev.bind h k
theorem Ev_asks (l : Nat → Int → Option Bool) (n : Nat) (G : Nat → Prop) (fin : Bool) (h0 : Ev (fun k => l k (n : Int)) fin)
    (hs : ∀ i : Nat, i < n → (G i ∧ ∀ k, l (k + 1) (i : Int) = l k ((i + 1 : Nat) : Int)) ∨ (¬ G i ∧ ∀ k, l (k + 1) (i : Int) = some false)) :
    ∀ (d i : Nat), n - i = d → i ≤ n → ∃ r, Ev (fun k => l k (i : Int)) r ∧ (r = true ↔ (∀ j, i ≤ j → j < n → G j) ∧ fin = true) := by
  intro d
  induction d with
  | zero =>
    intro i hd hi
    obtain rfl : i = n := by omega
    exact ⟨fin, h0, ⟨fun h => ⟨fun j h1 h2 => by omega, h⟩, fun h => h.2⟩⟩
  | succ d ih =>
    intro i hd hi
    rcases hs i (by omega) with ⟨hg, he⟩ | ⟨hg, he⟩
    · obtain ⟨r, hr, hiff⟩ := ih (i + 1) (by omega) (by omega)
      refine ⟨r, Ev.step he hr, ?_⟩
      rw [hiff]
      constructor
      · rintro ⟨h1, h2⟩
        refine ⟨fun j h3 h4 => ?_, h2⟩
        rcases Nat.eq_or_lt_of_le h3 with h5 | h5
        · exact h5 ▸ hg
        · exact h1 j h5 h4
      · rintro ⟨h1, h2⟩
        exact ⟨fun j h3 h4 => h1 j (by omega) h4, h2⟩
    · refine ⟨false, Ev_one he, ⟨fun h => Bool.noConfusion h, fun h => absurd (h.1 i (Nat.le_refl _) (by omega)) hg⟩⟩
theorem Ev_goes {σ ρ : Type} (l : Nat → σ → Int → Option ρ) (n : Nat) (F : Nat → σ → ρ) (Inv : Nat → σ → Prop)
    (h0 : ∀ s, Inv n s → Ev (fun k => l k s (n : Int)) (F n s))
    (hs : ∀ (i : Nat) s, i < n → Inv i s → (Ev (fun k => l k s (i : Int)) (F i s)) ∨ ∃ s', Inv (i + 1) s' ∧ F (i + 1) s' = F i s ∧ ∀ k, l (k + 1) s (i : Int) = l k s' ((i + 1 : Nat) : Int)) :
    ∀ (d i : Nat) s, n - i = d → i ≤ n → Inv i s → Ev (fun k => l k s (i : Int)) (F i s) := by
  intro d
  induction d with
  | zero =>
    intro i s hd hi hinv
    obtain rfl : i = n := by omega
    exact h0 s hinv
  | succ d ih =>
    intro i s hd hi hinv
    rcases hs i s (by omega) hinv with h | ⟨s', h1, h2, h3⟩
    · exact h
    · exact h2 ▸ Ev.step h3 (ih (i + 1) s' (by omega) (by omega) h1)
theorem drop_getD {α : Type} (z : α) (l : List α) (i : Nat) (h : i < l.length) : l.drop i = l.getD i z :: l.drop (i + 1) := by
  rw [List.drop_eq_getElem_cons h, List.getD_eq_getElem?_getD, List.getElem?_eq_getElem h]
  rfl
theorem getD_set {α : Type} (l : List α) (i j : Nat) (x z : α) : (l.set i x).getD j z = if i = j ∧ j < l.length then x else l.getD j z := by
  rw [List.getD_eq_getElem?_getD, List.getElem?_set, List.getD_eq_getElem?_getD]
  by_cases h : i = j
  · subst h
    by_cases h2 : i < l.length
    · simp [h2]
    · simp [h2]
  · simp [h]
theorem ext_getD {α : Type} (z : α) {a b : List α} (hl : a.length = b.length) (h : ∀ i, i < a.length → a.getD i z = b.getD i z) : a = b := by
  apply List.ext_getElem hl
  intro i h1 h2
  have := h i h1
  rw [List.getD_eq_getElem?_getD, List.getD_eq_getElem?_getD, List.getElem?_eq_getElem h1, List.getElem?_eq_getElem h2] at this
  simpa using this
end Go.Proofs.Ytpnejhelandclaa.EV
namespace Go.Proofs.Ytpnejhelandclaa.I1
open Go Go.RowKit Go.Proofs.Ytpnejhelandclaa.P Go.Proofs.YtpnejhelandclaaW.PrintWords Go.Proofs.YtpnejhelandclaaW.PrintLast
theorem in_i (a lo hi : Int) : impl_in.f a lo hi = some (decide (lo ≤ a ∧ a ≤ hi)) := by
  unfold impl_in.f
  by_cases h : a ≥ lo
  · rw [if_pos h]
    congr 1
    rw [Bool.eq_iff_iff, decide_eq_true_iff, decide_eq_true_iff]
    omega
  · rw [if_neg h]
    congr 1
    symm
    rw [decide_eq_false_iff_not]
    omega
theorem in_s (a lo hi : Int) : spec_l1In.f a lo hi = some (decide (lo ≤ a ∧ a ≤ hi)) := by
  unfold spec_l1In.f
  by_cases h : a ≥ lo
  · rw [if_pos h]
    congr 1
    rw [Bool.eq_iff_iff, decide_eq_true_iff, decide_eq_true_iff]
    omega
  · rw [if_neg h]
    congr 1
    symm
    rw [decide_eq_false_iff_not]
    omega
end Go.Proofs.Ytpnejhelandclaa.I1
namespace Go.Proofs.Ytpnejhelandclaa.TI
open Go Go.RowKit Go.Proofs.Ytpnejhelandclaa.P Go.Proofs.YtpnejhelandclaaW.PrintWords Go.Proofs.YtpnejhelandclaaW.PrintLast Go.Proofs.Ytpnejhelandclaa.EV
theorem rdi (l : List Int) (i : Nat) : rd l (i : Int) = l.getD i 0 := by unfold rd; rw [Int.toNat_natCast]
theorem to_Int (l : List Int) (hl : l.length ≤ 1048576) : Ev (fun k => laws_toIntS.f k l) l := by
  unfold laws_toIntS.f
  have h := Ev_goes (fun k s i => laws_toIntS.l0 k l s i) l.length (fun i s => s.take i ++ l.drop i) (fun i s => s.length = l.length)
    (fun s hs => Ev_one fun k => by
      simp only [laws_toIntS.l0]
      rw [if_neg (by omega), List.drop_length, List.append_nil, ← hs, List.take_length])
    (fun i s hi hs => .inr ⟨s.set i (l.getD i 0), by rw [List.length_set]; exact hs, by
        rw [List.take_add_one, List.take_set_of_le (Nat.le_refl i), List.getElem?_set_self (by omega), List.drop_eq_getElem_cons hi]
        have : l.getD i 0 = l[i] := by rw [List.getD_eq_getElem?_getD, List.getElem?_eq_getElem hi]; rfl
        rw [this]
        simp, fun k => by
        show laws_toIntS.l0 (k + 1) l s (i : Int) = _
        simp only [laws_toIntS.l0]
        rw [if_pos (by omega), if_pos (by omega), w_succ hi (by omega)]
        simp only [rdi]
        rw [if_pos (by omega)]
        simp only [Int.toNat_natCast]⟩) l.length 0 (List.replicate l.length 0) (by omega) (by omega) (by simp)
  refine Ev.congr (fun k => ?_) h
  rw [if_pos (by omega), if_pos (by omega)]
  rfl
theorem eq_Int (l : List Int) (hl : l.length ≤ 9223372036854775807) : Ev (fun k => laws_eqIntS.f k l l) true := by
  unfold laws_eqIntS.f
  obtain ⟨r, hr, hiff⟩ := Ev_asks (fun k i => laws_eqIntS.l0 k l l i) l.length (fun _ => True) true
    (Ev_one fun k => by simp only [laws_eqIntS.l0]; rw [if_neg (by omega)])
    (fun i hi => .inl ⟨trivial, fun k => by
      show laws_eqIntS.l0 (k + 1) l l (i : Int) = _
      simp only [laws_eqIntS.l0]
      rw [if_pos (by omega), if_pos (by omega), if_pos (by omega), if_pos trivial, w_succ hi (by omega)]⟩) l.length 0 (by omega) (by omega)
  obtain rfl : r = true := hiff.2 ⟨fun _ _ _ => trivial, rfl⟩
  refine Ev.congr (fun k => ?_) hr
  rw [if_pos rfl]
  rfl
end Go.Proofs.Ytpnejhelandclaa.TI
namespace Go.Proofs.Ytpnejhelandclaa.W1
open Go Go.RowKit Go.Proofs.Ytpnejhelandclaa.P Go.Proofs.YtpnejhelandclaaW.PrintWords Go.Proofs.YtpnejhelandclaaW.PrintLast Go.Proofs.Ytpnejhelandclaa.EV Go.Proofs.Ytpnejhelandclaa.I1 Go.Proofs.Ytpnejhelandclaa.TI
theorem some_s1 (a least : Int) : spec_l1Some.f a least = some (decide (least ≤ a ∧ a ≤ 1000000000000000)) := by unfold spec_l1Some.f; rw [in_s]; rfl
def Few (l : List Int) : Prop := l.length ≤ 40 ∧ ∀ x ∈ l, 0 ≤ x ∧ x ≤ 1000000000000000
theorem Few.at {l : List Int} (h : Few l) (i : Nat) (hi : i < l.length) : 0 ≤ l.getD i 0 ∧ l.getD i 0 ≤ 1000000000000000 := by
  have : l.getD i 0 = l[i] := by rw [List.getD_eq_getElem?_getD, List.getElem?_eq_getElem hi]; rfl
  rw [this]
  exact h.2 _ (List.getElem_mem hi)
theorem sum_bound (l : List Int) (h : ∀ x ∈ l, 0 ≤ x ∧ x ≤ 1000000000000000) : 0 ≤ l.sum ∧ l.sum ≤ 1000000000000000 * l.length := by
  induction l with
  | nil => simp
  | cons x l ih =>
    have h1 := ih fun y hy => h y (List.mem_cons_of_mem _ hy)
    have h2 := h x (List.mem_cons_self ..)
    rw [List.sum_cons, List.length_cons]
    omega
theorem drop_bound {l : List Int} (h : Few l) (i : Nat) : 0 ≤ (l.drop i).sum ∧ (l.drop i).sum ≤ 40000000000000000 := by
  have h1 := sum_bound (l.drop i) fun x hx => h.2 x (List.mem_of_mem_drop hx)
  rw [List.length_drop] at h1
  have := h.1
  omega
theorem drop_sum (l : List Int) (i : Nat) (hi : i < l.length) : (l.drop i).sum = l.getD i 0 + (l.drop (i + 1)).sum := by rw [drop_getD 0 l i hi, List.sum_cons]
theorem all_s {l : List Int} (h : Few l) : Ev (fun k => spec_l2All.f k l) l.sum := by
  unfold spec_l2All.f
  have h2 := h.1
  have h' := Ev_goes (fun k s i => spec_l2All.l0 k l s i) l.length (fun i s => s + (l.drop i).sum) (fun i s => 0 ≤ s ∧ s + (l.drop i).sum = l.sum)
    (fun s hs => Ev_one fun k => by
      simp only [spec_l2All.l0]
      rw [if_neg (by omega), List.drop_length, List.sum_nil, Int.add_zero])
    (fun i s hi hs => .inr ⟨s + l.getD i 0, by
        have h3 := h.at i hi
        have h4 := drop_sum l i hi
        omega, by rw [drop_sum l i hi]; omega, fun k => by
        show spec_l2All.l0 (k + 1) l s (i : Int) = _
        simp only [spec_l2All.l0]
        have h3 := h.at i hi
        have h4 := drop_sum l i hi
        have h5 := drop_bound h (i + 1)
        have h6 := drop_bound h 0
        rw [List.drop_zero] at h6
        rw [if_pos (by omega), if_pos (by omega), w_succ hi (by omega), rdi, w64_in _ (by omega) (by omega)]⟩) l.length 0 0 (by omega) (by omega) (by rw [List.drop_zero]; omega)
  rw [List.drop_zero, Int.zero_add] at h'
  exact h'
theorem all_i {l : List Int} (h : Few l) : Ev (fun k => impl_sumOf.f k l) l.sum := by
  unfold impl_sumOf.f
  have h2 := h.1
  have h' := Ev_goes (fun k s i => impl_sumOf.l0 k s l (l.length : Int) i) l.length (fun i s => s + (l.drop i).sum) (fun i s => 0 ≤ s ∧ s + (l.drop i).sum = l.sum)
    (fun s hs => Ev_one fun k => by
      simp only [impl_sumOf.l0]
      rw [if_neg (by omega), List.drop_length, List.sum_nil, Int.add_zero])
    (fun i s hi hs => .inr ⟨s + l.getD i 0, by
        have h3 := h.at i hi
        have h4 := drop_sum l i hi
        omega, by rw [drop_sum l i hi]; omega, fun k => by
        show impl_sumOf.l0 (k + 1) s l (l.length : Int) (i : Int) = _
        simp only [impl_sumOf.l0]
        have h3 := h.at i hi
        have h4 := drop_sum l i hi
        have h5 := drop_bound h (i + 1)
        have h6 := drop_bound h 0
        rw [List.drop_zero] at h6
        rw [if_pos (by omega), if_pos (by omega), if_pos (by omega), w_succ hi (by omega), rdi, w64_in _ (by omega) (by omega)]⟩) l.length 0 0 (by omega) (by omega) (by rw [List.drop_zero]; omega)
  rw [List.drop_zero, Int.zero_add] at h'
  exact h'
def OkW (l : List Int) : Prop := (1 ≤ (l.length : Int) ∧ (l.length : Int) ≤ 40 ∧ (∀ x ∈ l, 0 ≤ x ∧ x ≤ 1000000000000000)) ∧ 1 ≤ l.sum ∧ l.sum ≤ 1000000000000000
noncomputable def okW (l : List Int) : Bool := @decide (OkW l) (Classical.propDecidable _)
theorem okW_iff (l : List Int) : okW l = true ↔ OkW l := by unfold okW; exact @decide_eq_true_iff _ (Classical.propDecidable _)
theorem OkW.few {l : List Int} (h : OkW l) : Few l := ⟨by have := h.1.2.1; omega, h.1.2.2⟩
theorem okW_no {l : List Int} (h : ¬ OkW l) : okW l = false := by rw [Bool.eq_false_iff, Ne, okW_iff]; exact h
theorem okW_sum {l : List Int} (h : 1 ≤ (l.length : Int) ∧ (l.length : Int) ≤ 40 ∧ (∀ x ∈ l, 0 ≤ x ∧ x ≤ 1000000000000000)) : decide (1 ≤ l.sum ∧ l.sum ≤ 1000000000000000) = okW l := by
  rw [Bool.eq_iff_iff, okW_iff, decide_eq_true_iff]
  exact ⟨fun g => ⟨h, g⟩, fun g => g.2⟩
theorem weightsOk_i (l : List Int) : Ev (fun k => impl_WeightsOk.f k l) (okW l) := by
  unfold impl_WeightsOk.f
  by_cases h : 1 ≤ (l.length : Int) ∧ (l.length : Int) ≤ 40 ∧ (∀ x ∈ l, 0 ≤ x ∧ x ≤ 1000000000000000)
  · refine Ev.congr (fun k => by rw [if_pos h]) (Ev_bind (all_i ⟨by omega, h.2.2⟩) (Ev_all_k fun k => ?_))
    rw [okW_sum h]
  · rw [okW_no fun g => h g.1]
    exact Ev_all_k fun k => by rw [if_neg h]
theorem weightsOk_s (l : List Int) : Ev (fun k => spec_WeightsOk.f k l) (okW l) := by
  unfold spec_WeightsOk.f
  by_cases hn : 1 ≤ (l.length : Int) ∧ (l.length : Int) ≤ 40
  · refine Ev.congr (f := fun k => spec_WeightsOk.l0 k l 0) (fun k => by rw [in_s, decide_eq_true hn, Option.bind_some, if_pos rfl]) ?_
    by_cases hall : ∀ x ∈ l, 0 ≤ x ∧ x ≤ 1000000000000000
    · obtain ⟨r, hr, hiff⟩ := Ev_asks (fun k i => spec_WeightsOk.l0 k l i) l.length (fun j => 0 ≤ l.getD j 0 ∧ l.getD j 0 ≤ 1000000000000000) (okW l)
        (Ev.step (f := fun k => (spec_l2All.f k l).bind fun t106 => ((spec_l1Some.f t106 1).bind fun t107 => (some t107))) (fun k => by simp only [spec_WeightsOk.l0]; rw [if_neg (by omega)])
          (Ev_bind (all_s ⟨by omega, hall⟩) (Ev_all_k fun k => by rw [some_s1, Option.bind_some, okW_sum ⟨hn.1, hn.2, hall⟩])))
        (fun i hi => .inl ⟨Few.at ⟨by omega, hall⟩ i hi, fun k => by
          show spec_WeightsOk.l0 (k + 1) l (i : Int) = _
          simp only [spec_WeightsOk.l0]
          rw [if_pos (by omega), if_pos (by omega), w_succ hi (by omega), rdi, some_s1, Option.bind_some, decide_eq_true (Few.at ⟨by omega, hall⟩ i hi), if_pos rfl]⟩) l.length 0 (by omega) (by omega)
      have : r = okW l := by
        rw [Bool.eq_iff_iff, hiff]
        exact ⟨fun g => g.2, fun g => ⟨fun j _ hj => Few.at ⟨by omega, hall⟩ j hj, g⟩⟩
      exact this ▸ hr
    · rw [okW_no fun g => hall g.1.2.2]
      -- the first that is out of bounds
      have hbad : ∃ j, j < l.length ∧ ¬ (0 ≤ l.getD j 0 ∧ l.getD j 0 ≤ 1000000000000000) := by
        apply Classical.byContradiction
        intro hno
        apply hall
        intro x hx
        obtain ⟨j, hj, rfl⟩ := List.getElem_of_mem hx
        have e : l.getD j 0 = l[j] := by rw [List.getD_eq_getElem?_getD, List.getElem?_eq_getElem hj]; rfl
        apply Classical.byContradiction
        intro hq
        exact hno ⟨j, hj, by rw [e]; exact hq⟩
      obtain ⟨j, hj, hb⟩ := hbad
      have key : ∀ (d i : Nat), j - i = d → i ≤ j → Ev (fun k => spec_WeightsOk.l0 k l (i : Int)) false := by
        intro d
        induction d with
        | zero =>
          intro i hd hi
          obtain rfl : i = j := by omega
          exact Ev_one fun k => by
            simp only [spec_WeightsOk.l0]
            rw [if_pos (by omega), if_pos (by omega), rdi, some_s1, Option.bind_some, decide_eq_false hb, if_neg (by decide)]
        | succ d ih =>
          intro i hd hi
          by_cases hg : 0 ≤ l.getD i 0 ∧ l.getD i 0 ≤ 1000000000000000
          · refine Ev.step (f := fun k => spec_WeightsOk.l0 k l ((i + 1 : Nat) : Int)) (fun k => ?_) (ih (i + 1) (by omega) (by omega))
            simp only [spec_WeightsOk.l0]
            rw [if_pos (by omega), if_pos (by omega), w_succ (by omega : i < l.length) (by omega), rdi, some_s1, Option.bind_some, decide_eq_true hg, if_pos rfl]
          · exact Ev_one fun k => by
              simp only [spec_WeightsOk.l0]
              rw [if_pos (by omega), if_pos (by omega), rdi, some_s1, Option.bind_some, decide_eq_false hg, if_neg (by decide)]
      exact key j 0 (by omega) (by omega)
  · rw [okW_no fun g => hn ⟨g.1.1, g.1.2.1⟩]
    exact Ev_all_k fun k => by rw [in_s, decide_eq_false hn, Option.bind_some, if_neg (by decide)]
end Go.Proofs.Ytpnejhelandclaa.W1
namespace Go.Proofs.Ytpnejhelandclaa.L1
open Go Go.RowKit
theorem u64w (n : Int) : IntKind.u64.wrap n = n % 18446744073709551616 := by simp [IntKind.wrap, IntKind.bits, IntKind.signed]
theorem u64w_id (n : Int) (h0 : 0 ≤ n) (h1 : n < 18446744073709551616) : IntKind.u64.wrap n = n := by rw [u64w]; omega
theorem wraps_u64 (n : Int) (h₀ : 0 ≤ n) (h₁ : n < 2 ^ 64) : IntKind.u64.wrap n = n := u64w_id n h₀ (by simpa using h₁)
theorem and32 (x : Int) (h0 : 0 ≤ x) (h1 : x < 18446744073709551616) : Go.bits .and .u64 x 4294967295 = x % 4294967296 :=
  bits_mask .u64 64 (by decide) wraps_u64 32 (by decide) x h0 (by simpa using h1)
theorem w64_id (n : Int) (h0 : -9223372036854775808 ≤ n) (h1 : n ≤ 9223372036854775807) : wrap64 n = n := by unfold wrap64; omega
theorem mul64 (a b : Int) (ha0 : 0 ≤ a) (ha : a < 18446744073709551616) (hb0 : 0 ≤ b) (hb : b < 18446744073709551616) :
    IntKind.u64.wrap ((IntKind.u64.wrap ((IntKind.u64.wrap ((a / 4294967296) * (b / 4294967296))) + ((IntKind.u64.wrap ((IntKind.u64.wrap ((a / 4294967296) * (Go.bits .and .u64 b 4294967295))) + ((IntKind.u64.wrap ((Go.bits .and .u64 a 4294967295) * (Go.bits .and .u64 b 4294967295))) / 4294967296))) / 4294967296))) + ((IntKind.u64.wrap ((Go.bits .and .u64 (IntKind.u64.wrap ((IntKind.u64.wrap ((a / 4294967296) * (Go.bits .and .u64 b 4294967295))) + ((IntKind.u64.wrap ((Go.bits .and .u64 a 4294967295) * (Go.bits .and .u64 b 4294967295))) / 4294967296))) 4294967295) + (IntKind.u64.wrap ((Go.bits .and .u64 a 4294967295) * (b / 4294967296))))) / 4294967296)) = a * b / 18446744073709551616 := by
  obtain ⟨x, rfl⟩ := Int.eq_ofNat_of_zero_le ha0
  obtain ⟨y, rfl⟩ := Int.eq_ofNat_of_zero_le hb0
  have hx : x < 18446744073709551616 := by omega
  have hy : y < 18446744073709551616 := by omega
  obtain ⟨h1, h2, h3, h4⟩ := Lib.mul64_hi x y hx hy
  have e1 : ((x : Int) / 4294967296) = ((x / 4294967296 : Nat) : Int) := by omega
  have e2 : ((y : Int) / 4294967296) = ((y / 4294967296 : Nat) : Int) := by omega
  have e3 : ((x : Int) % 4294967296) = ((x % 4294967296 : Nat) : Int) := by omega
  have e4 : ((y : Int) % 4294967296) = ((y % 4294967296 : Nat) : Int) := by omega
  have ep : ((x : Int) * (y : Int)) = ((x * y : Nat) : Int) := (Int.natCast_mul _ _).symm
  have eh : ((x * y / 18446744073709551616 : Nat) : Int) = ((x * y : Nat) : Int) / 18446744073709551616 := by omega
  have ma := Lib.half_mul_le (a := x / 4294967296) (b := y / 4294967296) (by omega) (by omega)
  have mb := Lib.half_mul_le (a := x / 4294967296) (b := y % 4294967296) (by omega) (by omega)
  have mc := Lib.half_mul_le (a := x % 4294967296) (b := y / 4294967296) (by omega) (by omega)
  have md := Lib.half_mul_le (a := x % 4294967296) (b := y % 4294967296) (by omega) (by omega)
  rw [and32 _ ha0 ha, and32 _ hb0 hb, e1, e2, e3, e4, ep, ← eh, ← h4]
  have p1 : (((x / 4294967296 : Nat) : Int) * ((y / 4294967296 : Nat) : Int)) = ((x / 4294967296 * (y / 4294967296) : Nat) : Int) := (Int.natCast_mul _ _).symm
  have p2 : (((x / 4294967296 : Nat) : Int) * ((y % 4294967296 : Nat) : Int)) = ((x / 4294967296 * (y % 4294967296) : Nat) : Int) := (Int.natCast_mul _ _).symm
  have p3 : (((x % 4294967296 : Nat) : Int) * ((y / 4294967296 : Nat) : Int)) = ((x % 4294967296 * (y / 4294967296) : Nat) : Int) := (Int.natCast_mul _ _).symm
  have p4 : (((x % 4294967296 : Nat) : Int) * ((y % 4294967296 : Nat) : Int)) = ((x % 4294967296 * (y % 4294967296) : Nat) : Int) := (Int.natCast_mul _ _).symm
  rw [p1, p2, p3, p4]
  generalize x / 4294967296 * (y / 4294967296) = a at *
  generalize x / 4294967296 * (y % 4294967296) = b at *
  generalize x % 4294967296 * (y / 4294967296) = c at *
  generalize x % 4294967296 * (y % 4294967296) = d at *
  have q1 : IntKind.u64.wrap (a : Int) = a := u64w_id _ (by omega) (by omega)
  have q2 : IntKind.u64.wrap (b : Int) = b := u64w_id _ (by omega) (by omega)
  have q3 : IntKind.u64.wrap (c : Int) = c := u64w_id _ (by omega) (by omega)
  have q4 : IntKind.u64.wrap (d : Int) = d := u64w_id _ (by omega) (by omega)
  rw [q1, q2, q3, q4]
  have q5 : IntKind.u64.wrap ((b : Int) + (d : Int) / 4294967296) = (b : Int) + (d : Int) / 4294967296 := u64w_id _ (by omega) (by omega)
  rw [q5, and32 _ (by omega) (by omega)]
  have q6 : IntKind.u64.wrap (((b : Int) + (d : Int) / 4294967296) % 4294967296 + (c : Int)) = ((b : Int) + (d : Int) / 4294967296) % 4294967296 + (c : Int) := u64w_id _ (by omega) (by omega)
  have q7 : IntKind.u64.wrap ((a : Int) + ((b : Int) + (d : Int) / 4294967296) / 4294967296) = (a : Int) + ((b : Int) + (d : Int) / 4294967296) / 4294967296 := u64w_id _ (by omega) (by omega)
  rw [q6, q7, u64w]
  omega
end Go.Proofs.Ytpnejhelandclaa.L1
namespace Go.Proofs.Ytpnejhelandclaa.A2
open Go Go.RowKit Go.Proofs.Ytpnejhelandclaa.P Go.Proofs.YtpnejhelandclaaW.PrintWords Go.Proofs.YtpnejhelandclaaW.PrintLast Go.Proofs.YtpnejhelandclaaW.PrintMore Go.Proofs.Ytpnejhelandclaa.EV Go.Proofs.Ytpnejhelandclaa.L1 Go.Proofs.Ytpnejhelandclaa.I1
def Bits (x : Int) (n : Nat) : Prop := (x = 0 ∧ n = 0) ∨ (0 < n ∧ 2 ^ (n - 1) ≤ x ∧ x < 2 ^ n)
def tab : ByteArray := (⟨#[0, 1, 2, 2, 3, 3, 3, 3, 4, 4, 4, 4, 4, 4, 4, 4, 5, 5, 5, 5, 5, 5, 5, 5, 5, 5, 5, 5, 5, 5, 5, 5, 6, 6, 6, 6, 6, 6, 6, 6, 6, 6, 6, 6, 6, 6, 6, 6, 6, 6, 6, 6, 6, 6, 6, 6, 6, 6, 6, 6, 6, 6, 6, 6, 7, 7, 7, 7, 7, 7, 7, 7, 7, 7, 7, 7, 7, 7, 7, 7, 7, 7, 7, 7, 7, 7, 7, 7, 7, 7, 7, 7, 7, 7, 7, 7, 7, 7, 7, 7, 7, 7, 7, 7, 7, 7, 7, 7, 7, 7, 7, 7, 7, 7, 7, 7, 7, 7, 7, 7, 7, 7, 7, 7, 7, 7, 7, 7, 8, 8, 8, 8, 8, 8, 8, 8, 8, 8, 8, 8, 8, 8, 8, 8, 8, 8, 8, 8, 8, 8, 8, 8, 8, 8, 8, 8, 8, 8, 8, 8, 8, 8, 8, 8, 8, 8, 8, 8, 8, 8, 8, 8, 8, 8, 8, 8, 8, 8, 8, 8, 8, 8, 8, 8, 8, 8, 8, 8, 8, 8, 8, 8, 8, 8, 8, 8, 8, 8, 8, 8, 8, 8, 8, 8, 8, 8, 8, 8, 8, 8, 8, 8, 8, 8, 8, 8, 8, 8, 8, 8, 8, 8, 8, 8, 8, 8, 8, 8, 8, 8, 8, 8, 8, 8, 8, 8, 8, 8, 8, 8, 8, 8, 8, 8, 8, 8, 8, 8, 8, 8, 8, 8, 8, 8, 8, 8]⟩ : ByteArray)
theorem tab8 : ∀ x : Fin 256, 0 ≤ bt tab (x.val : Int) ∧ bt tab (x.val : Int) ≤ 8 ∧ ((x.val = 0 ∧ bt tab (x.val : Int) = 0) ∨ (0 < bt tab (x.val : Int) ∧ (2 : Int) ^ ((bt tab (x.val : Int)).toNat - 1) ≤ x.val ∧ (x.val : Int) < 2 ^ (bt tab (x.val : Int)).toNat)) := by decide +kernel
theorem tab_at (x : Int) (h0 : 0 ≤ x) (h1 : x < 256) : ∃ n : Nat, bt tab x = (n : Int) ∧ n ≤ 8 ∧ Bits x n := by
  obtain ⟨m, rfl⟩ := Int.eq_ofNat_of_zero_le h0
  obtain ⟨a, b, c⟩ : 0 ≤ bt tab (m : Int) ∧ bt tab (m : Int) ≤ 8 ∧ ((m = 0 ∧ bt tab (m : Int) = 0) ∨ (0 < bt tab (m : Int) ∧ (2 : Int) ^ ((bt tab (m : Int)).toNat - 1) ≤ m ∧ (m : Int) < 2 ^ (bt tab (m : Int)).toNat)) := tab8 ⟨m, by omega⟩
  refine ⟨(bt tab (m : Int)).toNat, by omega, by omega, ?_⟩
  rcases c with ⟨c1, c2⟩ | ⟨c1, c2, c3⟩
  · exact .inl ⟨by omega, by omega⟩
  · exact .inr ⟨by omega, c2, c3⟩
theorem bits_up {x y : Int} {n : Nat} (s : Nat) (hs : y = x / 2 ^ s) (hy : 0 < y) (h : Bits y n) : Bits x (n + s) := by
  rcases h with ⟨h, _⟩ | ⟨h0, h1, h2⟩
  · omega
  · have hp : (0 : Int) < 2 ^ s := Int.pow_pos (by decide)
    have e1 : (2 : Int) ^ (n + s - 1) = 2 ^ (n - 1) * 2 ^ s := by rw [← Int.pow_add]; congr 1; omega
    have e2 : (2 : Int) ^ (n + s) = 2 ^ n * 2 ^ s := Int.pow_add _ _ _
    refine .inr ⟨by omega, ?_, ?_⟩
    · rw [e1]
      exact Int.le_trans (Int.mul_le_mul_of_nonneg_right h1 (Int.le_of_lt hp)) (by rw [hs]; exact Int.ediv_mul_le x (Int.ne_of_gt hp))
    · rw [e2]
      have := Int.lt_ediv_add_one_mul_self x hp
      rw [← hs] at this
      exact Int.lt_of_lt_of_le this (Int.mul_le_mul_of_nonneg_right (by omega) (Int.le_of_lt hp))
def body8 (x c : Int) : Option Int := if x ≥ 65536 then (if (x / 65536) ≥ 256 then (if 0 ≤ (((x / 65536) / 256) % 256) then (if (((x / 65536) / 256) % 256) < 256 then (some (wrap64 ((wrap64 ((wrap64 (c + 16)) + 8)) + (wrap64 (bt tab (((x / 65536) / 256) % 256)))))) else (none)) else (none)) else (if 0 ≤ ((x / 65536) % 256) then (if ((x / 65536) % 256) < 256 then (some (wrap64 ((wrap64 (c + 16)) + (wrap64 (bt tab ((x / 65536) % 256)))))) else (none)) else (none))) else (if x ≥ 256 then (if 0 ≤ ((x / 256) % 256) then (if ((x / 256) % 256) < 256 then (some (wrap64 ((wrap64 (c + 8)) + (wrap64 (bt tab ((x / 256) % 256)))))) else (none)) else (none)) else (if 0 ≤ ((x) % 256) then (if ((x) % 256) < 256 then (some (wrap64 (c + (wrap64 (bt tab ((x) % 256)))))) else (none)) else (none)))
theorem body8_is (k : Nat) (x c : Int) : bits_Len64.j0 (k + 1) x c = body8 x c := rfl
theorem len64j (x c : Int) (h0 : 0 ≤ x) (h1 : x < 4294967296) (hc : 0 ≤ c) (hc2 : c ≤ 32) : ∃ n : Nat, n ≤ 32 ∧ Bits x n ∧ ∀ k, bits_Len64.j0 (k + 1) x c = some (c + n) := by
  by_cases a : x ≥ 65536
  · by_cases b : x / 65536 ≥ 256
    · obtain ⟨n, e, hn, hb⟩ := tab_at (x / 65536 / 256) (by omega) (by omega)
      refine ⟨n + 24, by omega, bits_up 24 (by omega) (by omega) hb, fun k => ?_⟩
      rw [body8_is]
      unfold body8
      rw [if_pos a, if_pos b, show x / 65536 / 256 % 256 = x / 65536 / 256 by omega, if_pos (by omega), if_pos (by omega)]
      rw [e, w64_id (c + 16) (by omega) (by omega), w64_id (c + 16 + 8) (by omega) (by omega), w64_id (n : Int) (by omega) (by omega), w64_id _ (by omega) (by omega)]
      exact congrArg some (by omega)
    · obtain ⟨n, e, hn, hb⟩ := tab_at (x / 65536) (by omega) (by omega)
      refine ⟨n + 16, by omega, bits_up 16 (by omega) (by omega) hb, fun k => ?_⟩
      rw [body8_is]
      unfold body8
      rw [if_pos a, if_neg b, show x / 65536 % 256 = x / 65536 by omega, if_pos (by omega), if_pos (by omega)]
      rw [e, w64_id (c + 16) (by omega) (by omega), w64_id (n : Int) (by omega) (by omega), w64_id _ (by omega) (by omega)]
      exact congrArg some (by omega)
  · by_cases b : x ≥ 256
    · obtain ⟨n, e, hn, hb⟩ := tab_at (x / 256) (by omega) (by omega)
      refine ⟨n + 8, by omega, bits_up 8 (by omega) (by omega) hb, fun k => ?_⟩
      rw [body8_is]
      unfold body8
      rw [if_neg a, if_pos b, show x / 256 % 256 = x / 256 by omega, if_pos (by omega), if_pos (by omega)]
      rw [e, w64_id (c + 8) (by omega) (by omega), w64_id (n : Int) (by omega) (by omega), w64_id _ (by omega) (by omega)]
      exact congrArg some (by omega)
    · obtain ⟨n, e, hn, hb⟩ := tab_at x (by omega) (by omega)
      refine ⟨n, by omega, hb, fun k => ?_⟩
      rw [body8_is]
      unfold body8
      rw [if_neg a, if_neg b, show x % 256 = x by omega, if_pos (by omega), if_pos (by omega)]
      rw [e, w64_id (n : Int) (by omega) (by omega), w64_id _ (by omega) (by omega)]
theorem zeros64 (y : Int) (h0 : 0 < y) (h1 : y < 18446744073709551616) : ∃ s : Nat, s ≤ 63 ∧ 9223372036854775808 ≤ y * 2 ^ s ∧ y * 2 ^ s < 18446744073709551616 ∧ ∀ k, bits_LeadingZeros64.f (k + 1) y = some (s : Int) := by
  have fin : ∀ n : Nat, n ≤ 64 → Bits y n → ∃ s : Nat, s ≤ 63 ∧ (s : Int) = 64 - n ∧ 9223372036854775808 ≤ y * 2 ^ s ∧ y * 2 ^ s < 18446744073709551616 := by
    intro n hn hb
    rcases hb with ⟨h, _⟩ | ⟨a, b, c⟩
    · omega
    · have hp : (0 : Int) < 2 ^ (64 - n) := Int.pow_pos (by decide)
      refine ⟨64 - n, by omega, by omega, ?_, ?_⟩
      · have e : (9223372036854775808 : Int) = 2 ^ (n - 1) * 2 ^ (64 - n) := by rw [← Int.pow_add, show n - 1 + (64 - n) = 63 by omega]; decide
        rw [e]
        exact Int.mul_le_mul_of_nonneg_right b (Int.le_of_lt hp)
      · have e : (18446744073709551616 : Int) = 2 ^ n * 2 ^ (64 - n) := by rw [← Int.pow_add, show n + (64 - n) = 64 by omega]; decide
        rw [e]
        exact Int.mul_lt_mul_of_pos_right c hp
  by_cases a : y ≥ 4294967296
  · obtain ⟨n, hn, hb, e⟩ := len64j (y / 4294967296) 32 (by omega) (by omega) (by decide) (by decide)
    obtain ⟨s, s0, s1, s2, s3⟩ := fin (n + 32) (by omega) (bits_up 32 (by omega) (by omega) hb)
    refine ⟨s, s0, s2, s3, fun k => ?_⟩
    unfold bits_LeadingZeros64.f bits_Len64.f
    rw [if_pos a, e, Option.bind_some, w64_id _ (by omega) (by omega)]
    exact congrArg some (by omega)
  · obtain ⟨n, hn, hb, e⟩ := len64j y 0 (by omega) (by omega) (by decide) (by decide)
    obtain ⟨s, s0, s1, s2, s3⟩ := fin n (by omega) hb
    refine ⟨s, s0, s2, s3, fun k => ?_⟩
    unfold bits_LeadingZeros64.f bits_Len64.f
    rw [if_neg a, e, Option.bind_some, w64_id _ (by omega) (by omega)]
    exact congrArg some (by omega)
structure Trial (yn1 yn0 n u q r : Int) : Prop where
  q0 : 0 ≤ q
  q1 : q ≤ 4294967297
  r0 : 0 ≤ r
  r1 : r < 4294967296
  e : q * yn1 + r = n
  up : n * 4294967296 + u < (q * yn1) * 4294967296 + q * yn0 + yn1 * 4294967296 + yn0
structure Halves (yn1 yn0 n u : Int) : Prop where
  a0 : 2147483648 ≤ yn1
  a1 : yn1 < 4294967296
  b0 : 0 ≤ yn0
  b1 : yn0 < 4294967296
  u0 : 0 ≤ u
  u1 : u < 4294967296
  n0 : 0 ≤ n
  n1 : n < yn1 * 4294967296 + yn0
theorem digit_lt {yn1 yn0 n u q : Int} (h : Halves yn1 yn0 n u) (hq : (q * yn1) * 4294967296 + q * yn0 ≤ n * 4294967296 + u) : q < 4294967296 := by
  obtain ⟨a0, a1, b0, b1, u0, u1, n0, n1⟩ := h
  rcases (by omega : q < 4294967296 ∨ 4294967296 ≤ q) with hlt | hge
  · exact hlt
  · exfalso
    have p1 : 4294967296 * yn1 ≤ q * yn1 := Int.mul_le_mul_of_nonneg_right hge (by omega)
    have p2 : 4294967296 * yn0 ≤ q * yn0 := Int.mul_le_mul_of_nonneg_right hge b0
    generalize q * yn1 = A at *
    generalize q * yn0 = C at *
    omega
theorem trial_down {yn1 yn0 n u q r : Int} (h : Halves yn1 yn0 n u) (t : Trial yn1 yn0 n u q r) (ht : 4294967296 ≤ q ∨ 4294967296 * r + u < q * yn0) :
    1 ≤ q ∧ n * 4294967296 + u < (q * yn1) * 4294967296 + q * yn0 ∧ (q - 1) * yn1 = q * yn1 - yn1 ∧ (q - 1) * yn0 = q * yn0 - yn0 ∧ q * yn0 - yn0 ≤ 18446744069414584320 := by
  obtain ⟨a0, a1, b0, b1, u0, u1, n0, n1⟩ := h
  obtain ⟨q0, q1, r0, r1, e, up⟩ := t
  have e1 : (q - 1) * yn1 = q * yn1 - yn1 := by rw [Int.sub_mul, Int.one_mul]
  have e0 : (q - 1) * yn0 = q * yn0 - yn0 := by rw [Int.sub_mul, Int.one_mul]
  have h1 : 1 ≤ q := by
    rcases (by omega : q = 0 ∨ 1 ≤ q) with hz | hz
    · subst hz
      rw [Int.zero_mul] at ht
      omega
    · exact hz
  have hb : (q - 1) * yn0 ≤ 4294967296 * 4294967295 := Int.mul_le_mul (by omega) (by omega) b0 (by decide)
  refine ⟨h1, ?_, e1, e0, by omega⟩
  rcases ht with ht | ht
  · have p1 : 4294967296 * yn1 ≤ q * yn1 := Int.mul_le_mul_of_nonneg_right ht (by omega)
    have p2 : 4294967296 * yn0 ≤ q * yn0 := Int.mul_le_mul_of_nonneg_right ht b0
    generalize q * yn1 = A at *
    generalize q * yn0 = C at *
    omega
  · generalize q * yn1 = A at *
    generalize q * yn0 = C at *
    omega
def Right (yn1 yn0 n u q : Int) : Prop := 0 ≤ q ∧ (q * yn1) * 4294967296 + q * yn0 ≤ n * 4294967296 + u ∧ n * 4294967296 + u < (q * yn1) * 4294967296 + q * yn0 + yn1 * 4294967296 + yn0
theorem trial_stop {yn1 yn0 n u q r : Int} (t : Trial yn1 yn0 n u q r) (h2 : ¬ 4294967296 * r + u < q * yn0) : Right yn1 yn0 n u q := by
  obtain ⟨q0, q1, r0, r1, e, up⟩ := t
  refine ⟨q0, ?_, up⟩
  generalize q * yn1 = A at *
  generalize q * yn0 = C at *
  omega
theorem trial_next {yn1 yn0 n u q r : Int} (h : Halves yn1 yn0 n u) (t : Trial yn1 yn0 n u q r) (ht : 4294967296 ≤ q ∨ 4294967296 * r + u < q * yn0) (hr : r + yn1 < 4294967296) : Trial yn1 yn0 n u (q - 1) (r + yn1) := by
  obtain ⟨h1, h2, e1, e0, hb⟩ := trial_down h t ht
  obtain ⟨a0, a1, b0, b1, u0, u1, n0, n1⟩ := h
  obtain ⟨q0, q1, r0, r1, e, up⟩ := t
  refine ⟨by omega, by omega, by omega, hr, ?_, ?_⟩
  · rw [e1]
    omega
  · rw [e1, e0]
    generalize q * yn1 = A at *
    generalize q * yn0 = C at *
    omega
theorem trial_last {yn1 yn0 n u q r : Int} (h : Halves yn1 yn0 n u) (t : Trial yn1 yn0 n u q r) (ht : 4294967296 ≤ q ∨ 4294967296 * r + u < q * yn0) (hr : 4294967296 ≤ r + yn1) : Right yn1 yn0 n u (q - 1) := by
  obtain ⟨h1, h2, e1, e0, hb⟩ := trial_down h t ht
  obtain ⟨a0, a1, b0, b1, u0, u1, n0, n1⟩ := h
  obtain ⟨q0, q1, r0, r1, e, up⟩ := t
  unfold Right
  rw [e1, e0]
  generalize q * yn1 = A at *
  generalize q * yn0 = C at *
  omega
theorem test_is {yn1 yn0 n u q r : Int} (h : Halves yn1 yn0 n u) (t : Trial yn1 yn0 n u q r) (hq : ¬ q ≥ 4294967296) :
    decide (IntKind.u64.wrap (q * yn0) > IntKind.u64.wrap (IntKind.u64.wrap (4294967296 * r) + u)) = decide (4294967296 * r + u < q * yn0) := by
  obtain ⟨a0, a1, b0, b1, u0, u1, n0, n1⟩ := h
  obtain ⟨q0, q1, r0, r1, e, up⟩ := t
  have hb : q * yn0 ≤ 4294967295 * 4294967295 := Int.mul_le_mul (by omega) (by omega) b0 (by decide)
  have hz : 0 ≤ q * yn0 := Int.mul_nonneg q0 b0
  rw [u64w_id (q * yn0) hz (by omega), u64w_id (4294967296 * r) (by omega) (by omega), u64w_id _ (by omega) (by omega)]
theorem trial_first {yn1 yn0 n u : Int} (h : Halves yn1 yn0 n u) : Trial yn1 yn0 n u (n / yn1) (n - n / yn1 * yn1) ∧ 0 ≤ n / yn1 * yn1 ∧ n / yn1 * yn1 ≤ n := by
  obtain ⟨a0, a1, b0, b1, u0, u1, n0, n1⟩ := h
  have p0 : 0 ≤ n / yn1 := Int.ediv_nonneg n0 (by omega)
  have p1 : n / yn1 * yn1 ≤ n := Int.ediv_mul_le n (by omega)
  have p2 : n < (n / yn1 + 1) * yn1 := Int.lt_ediv_add_one_mul_self n (by omega)
  have p3 : (n / yn1 + 1) * yn1 = n / yn1 * yn1 + yn1 := by rw [Int.add_mul, Int.one_mul]
  have p4 : 0 ≤ n / yn1 * yn1 := Int.mul_nonneg p0 (by omega)
  have p5 : 0 ≤ n / yn1 * yn0 := Int.mul_nonneg p0 b0
  refine ⟨⟨p0, ?_, by omega, by omega, by omega, ?_⟩, p4, p1⟩
  · rcases (by omega : n / yn1 ≤ 4294967297 ∨ 4294967298 ≤ n / yn1) with hle | hge
    · exact hle
    · exfalso
      have : 4294967298 * yn1 ≤ n / yn1 * yn1 := Int.mul_le_mul_of_nonneg_right hge (by omega)
      omega
  · generalize n / yn1 * yn1 = A at *
    generalize n / yn1 * yn0 = C at *
    omega
theorem rest_is {n u p : Int} (h0 : 0 ≤ n * 4294967296 + u - p) (h1 : n * 4294967296 + u - p < 18446744073709551616) :
    IntKind.u64.wrap (IntKind.u64.wrap (IntKind.u64.wrap (n * 4294967296) + u) - IntKind.u64.wrap p) = n * 4294967296 + u - p := by
  rw [u64w, u64w, u64w, u64w]
  omega
theorem times_y (q yn1 yn0 y : Int) (hy : y = yn1 * 4294967296 + yn0) : q * y = (q * yn1) * 4294967296 + q * yn0 := by
  rw [hy, Int.mul_add, ← Int.mul_assoc]
theorem l1_ok (y yn1 yn0 n u : Int) (s : Nat) (hy : y = yn1 * 4294967296 + yn0) (h : Halves yn1 yn0 n u) (q1 : Int) (hq1 : 0 ≤ q1) (hq2 : q1 < 4294967296) :
    ∀ (d : Nat) (q r : Int), Trial yn1 yn0 n u q r → 4294967296 ≤ r + d * 2147483648 →
      ∃ Q, Right yn1 yn0 n u Q ∧ Ev (fun k => bits_Div64.l1 k y (s : Int) yn1 yn0 u q1 r n q) (q1 * 4294967296 + Q, shr .u64 (n * 4294967296 + u - Q * y) (s : Int)) := by
  have fin : ∀ Q, Right yn1 yn0 n u Q → 0 ≤ n * 4294967296 + u - Q * y ∧ n * 4294967296 + u - Q * y < 18446744073709551616 ∧ Q < 4294967296 := by
    intro Q hQ
    have := digit_lt h hQ.2.1
    have e := times_y Q yn1 yn0 y hy
    obtain ⟨a0, a1, b0, b1, u0, u1, n0, n1⟩ := h
    obtain ⟨c0, c1, c2⟩ := hQ
    rw [e]
    generalize Q * yn1 = A at *
    generalize Q * yn0 = C at *
    omega
  intro d
  induction d with
  | zero =>
    intro q r t hd
    have := t.r1
    omega
  | succ d ih =>
    intro q r t hd
    have ht0 := t.q0
    have ht1 := t.q1
    have hr0 := t.r0
    have hr1 := t.r1
    have ha0 := h.a0
    have ha1 := h.a1
    have body : ∀ c : Bool, (c = true ↔ (4294967296 ≤ q ∨ 4294967296 * r + u < q * yn0)) →
        ∃ Q, Right yn1 yn0 n u Q ∧ Ev (fun k => bits_Div64.j4 k y (s : Int) yn1 yn0 u q1 r n q c) (q1 * 4294967296 + Q, shr .u64 (n * 4294967296 + u - Q * y) (s : Int)) := by
      intro c hc
      cases c with
      | true =>
        have ht := hc.1 rfl
        have hw : IntKind.u64.wrap (r + yn1) = r + yn1 := u64w_id _ (by omega) (by omega)
        have hd1 := (trial_down h t ht).1
        have hw2 : IntKind.u64.wrap (q - 1) = q - 1 := u64w_id _ (by omega) (by omega)
        by_cases hr : 4294967296 ≤ r + yn1
        · have hR := trial_last h t ht hr
          have hf := fin _ hR
          refine ⟨q - 1, hR, Ev_one fun k => ?_⟩
          simp only [bits_Div64.j4]
          rw [if_pos trivial, hw, if_pos (by omega), if_pos (by omega), hw2, rest_is hf.1 hf.2.1, u64w_id (q1 * 4294967296) (by omega) (by omega), u64w_id _ (by omega) (by omega)]
        · obtain ⟨Q, hQ, hE⟩ := ih (q - 1) (r + yn1) (trial_next h t ht (by omega)) (by omega)
          refine ⟨Q, hQ, Ev.step (fun k => ?_) hE⟩
          simp only [bits_Div64.j4]
          rw [if_pos trivial, hw, if_neg (by omega), hw2]
      | false =>
        have ht : ¬ (4294967296 ≤ q ∨ 4294967296 * r + u < q * yn0) := fun hh => Bool.noConfusion (hc.2 hh)
        have hR := trial_stop t (fun hh => ht (.inr hh))
        have hf := fin _ hR
        refine ⟨q, hR, Ev_one fun k => ?_⟩
        simp only [bits_Div64.j4]
        rw [if_neg (by decide), if_pos (by omega), rest_is hf.1 hf.2.1, u64w_id (q1 * 4294967296) (by omega) (by omega), u64w_id _ (by omega) (by omega)]
    by_cases hq : q ≥ 4294967296
    · obtain ⟨Q, hQ, hE⟩ := body true ⟨fun _ => .inl hq, fun _ => rfl⟩
      refine ⟨Q, hQ, Ev.step (fun k => ?_) hE⟩
      simp only [bits_Div64.l1]
      rw [if_pos hq]
    · obtain ⟨Q, hQ, hE⟩ := body (decide (4294967296 * r + u < q * yn0)) (by rw [decide_eq_true_iff]; omega)
      refine ⟨Q, hQ, Ev.step (fun k => ?_) hE⟩
      simp only [bits_Div64.l1]
      rw [if_neg hq, test_is h t hq]
theorem l0_ok (y yn1 yn0 n u v : Int) (s : Nat) (hy : y = yn1 * 4294967296 + yn0) (h : Halves yn1 yn0 n u) (hv0 : 0 ≤ v) (hv1 : v < 4294967296) :
    ∀ (d : Nat) (q r : Int), Trial yn1 yn0 n u q r → 4294967296 ≤ r + d * 2147483648 →
      ∃ Q1 Q0, 0 ≤ Q1 ∧ Q1 < 4294967296 ∧ 0 ≤ Q0 ∧ Q0 < 4294967296 ∧ 0 ≤ (n * 4294967296 + u - Q1 * y) * 4294967296 + v - Q0 * y ∧ (n * 4294967296 + u - Q1 * y) * 4294967296 + v - Q0 * y < y ∧
        Ev (fun k => bits_Div64.l0 k y (s : Int) yn1 yn0 n u v q r) (Q1 * 4294967296 + Q0, shr .u64 ((n * 4294967296 + u - Q1 * y) * 4294967296 + v - Q0 * y) (s : Int)) := by
  have fin : ∀ Q, Right yn1 yn0 n u Q → ∃ Q0, 0 ≤ Q ∧ Q < 4294967296 ∧ 0 ≤ Q0 ∧ Q0 < 4294967296 ∧ 0 ≤ (n * 4294967296 + u - Q * y) * 4294967296 + v - Q0 * y ∧ (n * 4294967296 + u - Q * y) * 4294967296 + v - Q0 * y < y ∧
        Ev (fun k => bits_Div64.j2 k y (s : Int) yn1 yn0 n u v Q) (Q * 4294967296 + Q0, shr .u64 ((n * 4294967296 + u - Q * y) * 4294967296 + v - Q0 * y) (s : Int)) := by
    intro Q hQ
    have hlt := digit_lt h hQ.2.1
    have e := times_y Q yn1 yn0 y hy
    obtain ⟨c0, c1, c2⟩ := hQ
    have ha0 := h.a0
    have ha1 := h.a1
    have hr0 : 0 ≤ n * 4294967296 + u - Q * y := by rw [e]; omega
    have hr1 : n * 4294967296 + u - Q * y < y := by
      rw [e, hy]
      generalize Q * yn1 = A at *
      generalize Q * yn0 = C at *
      omega
    have hw := rest_is (n := n) (u := u) (p := Q * y) hr0 (by have := h.b1; omega)
    generalize n * 4294967296 + u - Q * y = m at *
    have hH : Halves yn1 yn0 m v := ⟨h.a0, h.a1, h.b0, h.b1, hv0, hv1, hr0, by omega⟩
    obtain ⟨tr, tr0, tr1⟩ := trial_first hH
    obtain ⟨Q0, hQ0, hE⟩ := l1_ok y yn1 yn0 m v s hy hH Q c0 hlt 2 _ _ tr (by have := tr.r0; omega)
    have hlt0 := digit_lt hH hQ0.2.1
    have e0 := times_y Q0 yn1 yn0 y hy
    obtain ⟨g0, g1, g2⟩ := hQ0
    refine ⟨Q0, c0, hlt, g0, hlt0, by rw [e0]; omega, ?_, Ev.step (fun k => ?_) hE⟩
    · rw [e0, hy]
      generalize Q0 * yn1 = A at *
      generalize Q0 * yn0 = C at *
      omega
    · have hd : Int.tdiv m yn1 = m / yn1 := Int.tdiv_eq_ediv_of_nonneg hr0
      have hdr : 0 ≤ m / yn1 := tr.q0
      have hdr1 : m / yn1 ≤ 4294967297 := tr.q1
      simp only [bits_Div64.j2]
      rw [if_neg (by omega), hw, hd, u64w_id (m / yn1) hdr (by omega), u64w_id (m / yn1 * yn1) tr0 (by have := h.b1; omega), u64w_id (m - m / yn1 * yn1) (by omega) (by have := h.b1; omega)]
  intro d
  induction d with
  | zero =>
    intro q r t hd
    have := t.r1
    omega
  | succ d ih =>
    intro q r t hd
    have ht0 := t.q0
    have ht1 := t.q1
    have hr0 := t.r0
    have hr1 := t.r1
    have ha0 := h.a0
    have ha1 := h.a1
    have body : ∀ c : Bool, (c = true ↔ (4294967296 ≤ q ∨ 4294967296 * r + u < q * yn0)) →
        ∃ Q1 Q0, 0 ≤ Q1 ∧ Q1 < 4294967296 ∧ 0 ≤ Q0 ∧ Q0 < 4294967296 ∧ 0 ≤ (n * 4294967296 + u - Q1 * y) * 4294967296 + v - Q0 * y ∧ (n * 4294967296 + u - Q1 * y) * 4294967296 + v - Q0 * y < y ∧
        Ev (fun k => bits_Div64.j1 k y (s : Int) yn1 yn0 n u v q r c) (Q1 * 4294967296 + Q0, shr .u64 ((n * 4294967296 + u - Q1 * y) * 4294967296 + v - Q0 * y) (s : Int)) := by
      intro c hc
      cases c with
      | true =>
        have ht := hc.1 rfl
        have hw : IntKind.u64.wrap (r + yn1) = r + yn1 := u64w_id _ (by omega) (by omega)
        have hd1 := (trial_down h t ht).1
        have hw2 : IntKind.u64.wrap (q - 1) = q - 1 := u64w_id _ (by omega) (by omega)
        by_cases hr : 4294967296 ≤ r + yn1
        · obtain ⟨Q0, z0, z1, z2, z3, z4, z5, hE⟩ := fin _ (trial_last h t ht hr)
          refine ⟨q - 1, Q0, z0, z1, z2, z3, z4, z5, Ev.step (fun k => ?_) hE⟩
          simp only [bits_Div64.j1]
          rw [if_pos trivial, hw, if_pos (by omega), hw2]
        · obtain ⟨Q1, Q0, z0, z1, z2, z3, z4, z5, hE⟩ := ih (q - 1) (r + yn1) (trial_next h t ht (by omega)) (by omega)
          refine ⟨Q1, Q0, z0, z1, z2, z3, z4, z5, Ev.step (fun k => ?_) hE⟩
          simp only [bits_Div64.j1]
          rw [if_pos trivial, hw, if_neg (by omega), hw2]
      | false =>
        have ht : ¬ (4294967296 ≤ q ∨ 4294967296 * r + u < q * yn0) := fun hh => Bool.noConfusion (hc.2 hh)
        obtain ⟨Q0, z0, z1, z2, z3, z4, z5, hE⟩ := fin _ (trial_stop t (fun hh => ht (.inr hh)))
        refine ⟨q, Q0, z0, z1, z2, z3, z4, z5, Ev.step (fun k => ?_) hE⟩
        simp only [bits_Div64.j1]
        rw [if_neg (by decide)]
    by_cases hq : q ≥ 4294967296
    · obtain ⟨Q1, Q0, z0, z1, z2, z3, z4, z5, hE⟩ := body true ⟨fun _ => .inl hq, fun _ => rfl⟩
      refine ⟨Q1, Q0, z0, z1, z2, z3, z4, z5, Ev.step (fun k => ?_) hE⟩
      simp only [bits_Div64.l0]
      rw [if_pos hq]
    · obtain ⟨Q1, Q0, z0, z1, z2, z3, z4, z5, hE⟩ := body (decide (4294967296 * r + u < q * yn0)) (by rw [decide_eq_true_iff]; omega)
      refine ⟨Q1, Q0, z0, z1, z2, z3, z4, z5, Ev.step (fun k => ?_) hE⟩
      simp only [bits_Div64.l0]
      rw [if_neg hq, test_is h t hq]
theorem parts (hi lo y : Int) (s : Nat) (hs : s ≤ 63) (h0 : 0 ≤ hi) (h1 : hi < y) (l0 : 0 ≤ lo) (l1 : lo < 18446744073709551616) (y1 : y * 2 ^ s < 18446744073709551616) :
    ∃ n m : Int, Go.bits .or .u64 (shl .u64 hi (s : Int)) (shr .u64 lo (64 - (s : Int))) = n ∧ shl .u64 lo (s : Int) = m ∧ 0 ≤ n ∧ n < y * 2 ^ s ∧ 0 ≤ m ∧ m < 18446744073709551616 ∧ (hi * 18446744073709551616 + lo) * 2 ^ s = n * 18446744073709551616 + m := by
  have hp : (0 : Int) < 2 ^ s := Int.pow_pos (by decide)
  have hp2 : (0 : Int) < 2 ^ (64 - s) := Int.pow_pos (by decide)
  have hpp : (2 : Int) ^ (64 - s) * 2 ^ s = 18446744073709551616 := by rw [← Int.pow_add, show 64 - s + s = 64 by omega]; decide
  have e1 : shl .u64 hi (s : Int) = hi * 2 ^ s := by
    unfold shl
    rw [Int.toNat_natCast, Nat.min_eq_left (by show s ≤ 64; omega)]
    have a : 0 ≤ hi * 2 ^ s := Int.mul_nonneg h0 (Int.le_of_lt hp)
    have b : hi * 2 ^ s ≤ y * 2 ^ s := Int.mul_le_mul_of_nonneg_right (by omega) (Int.le_of_lt hp)
    exact u64w_id _ a (by omega)
  have e2 : shr .u64 lo (64 - (s : Int)) = lo / 2 ^ (64 - s) := by
    unfold shr
    rw [show (64 - (s : Int)).toNat = 64 - s by omega, Nat.min_eq_left (by show 64 - s ≤ 64; omega)]
  have e3 : shl .u64 lo (s : Int) = (lo * 2 ^ s) % 18446744073709551616 := by
    unfold shl
    rw [Int.toNat_natCast, Nat.min_eq_left (by show s ≤ 64; omega), u64w]
  have d0 : 0 ≤ lo / 2 ^ (64 - s) := Int.ediv_nonneg l0 (Int.le_of_lt hp2)
  have d1 : lo / 2 ^ (64 - s) < 2 ^ s := by
    refine Int.ediv_lt_of_lt_mul hp2 ?_
    rw [Int.mul_comm, hpp]
    exact l1
  have hx : 0 ≤ hi * 2 ^ s := Int.mul_nonneg h0 (Int.le_of_lt hp)
  have hx1 : hi * 2 ^ s + 2 ^ s ≤ y * 2 ^ s := by
    have : (hi + 1) * 2 ^ s ≤ y * 2 ^ s := Int.mul_le_mul_of_nonneg_right (by omega) (Int.le_of_lt hp)
    rw [Int.add_mul, Int.one_mul] at this
    exact this
  have e4 : Go.bits .or .u64 (hi * 2 ^ s) (lo / 2 ^ (64 - s)) = hi * 2 ^ s + lo / 2 ^ (64 - s) :=
    bits_join .u64 64 (by decide) wraps_u64 s _ _ hx (Int.mul_emod_left _ _) (by simpa using (by omega : hi * 2 ^ s < 18446744073709551616)) d0 d1 (by simpa using (by omega : lo / 2 ^ (64 - s) < 18446744073709551616))
  have e5 : lo * 2 ^ s = (lo / 2 ^ (64 - s)) * 18446744073709551616 + (lo * 2 ^ s) % 18446744073709551616 := by
    have a : lo = 2 ^ (64 - s) * (lo / 2 ^ (64 - s)) + lo % 2 ^ (64 - s) := (Int.mul_ediv_add_emod lo (2 ^ (64 - s))).symm
    have b : lo % 2 ^ (64 - s) < 2 ^ (64 - s) := Int.emod_lt_of_pos _ hp2
    have c : 0 ≤ lo % 2 ^ (64 - s) := Int.emod_nonneg _ (Int.ne_of_gt hp2)
    generalize lo / 2 ^ (64 - s) = t at *
    generalize lo % 2 ^ (64 - s) = g at *
    have e : lo * 2 ^ s = t * 18446744073709551616 + g * 2 ^ s := by rw [a, Int.add_mul, Int.mul_comm (2 ^ (64 - s)) t, Int.mul_assoc, hpp]
    have f0 : 0 ≤ g * 2 ^ s := Int.mul_nonneg c (Int.le_of_lt hp)
    have f1 : g * 2 ^ s < 18446744073709551616 := by rw [← hpp]; exact Int.mul_lt_mul_of_pos_right b hp
    generalize g * 2 ^ s = x at *
    generalize lo * 2 ^ s = z at *
    omega
  refine ⟨hi * 2 ^ s + lo / 2 ^ (64 - s), (lo * 2 ^ s) % 18446744073709551616, by rw [e1, e2, e4], e3, by omega, by omega, by omega, by omega, ?_⟩
  rw [Int.add_mul, Int.mul_right_comm]
  generalize hi * 2 ^ s = a at *
  generalize lo / 2 ^ (64 - s) = b at *
  generalize lo * 2 ^ s = c at *
  omega
theorem div64 (hi lo y : Int) (h0 : 0 ≤ hi) (h1 : hi < y) (l0 : 0 ≤ lo) (l1 : lo < 18446744073709551616) (y1 : y < 18446744073709551616) :
    Ev (fun k => bits_Div64.f k hi lo y) ((hi * 18446744073709551616 + lo) / y, (hi * 18446744073709551616 + lo) % y) := by
  unfold bits_Div64.f
  by_cases hz : hi = 0
  · refine Ev_all_k fun k => ?_
    rw [if_neg (by omega), if_neg (by omega), if_pos hz, hz, Int.zero_mul, Int.zero_add, Int.tdiv_eq_ediv_of_nonneg l0, Int.tmod_eq_emod_of_nonneg l0]
    have a : 0 ≤ lo / y := Int.ediv_nonneg l0 (by omega)
    have b : lo / y ≤ lo := Int.ediv_le_self _ l0
    rw [u64w_id _ a (by omega)]
  · obtain ⟨s, hs, ya, yb, hE⟩ := zeros64 y (by omega) y1
    obtain ⟨n, m, en, em, n0, n1, m0, m1, eU⟩ := parts hi lo y s hs h0 h1 l0 l1 yb
    have hp : (0 : Int) < 2 ^ s := Int.pow_pos (by decide)
    have ey : shl .u64 y (s : Int) = y * 2 ^ s := by
      unfold shl
      rw [Int.toNat_natCast, Nat.min_eq_left (by show s ≤ 64; omega)]
      exact u64w_id _ (by omega) yb
    have ws : IntKind.u64.wrap (s : Int) = s := u64w_id _ (by omega) (by omega)
    have ws2 : IntKind.u64.wrap (64 - (s : Int)) = 64 - s := u64w_id _ (by omega) (by omega)
    generalize hY : y * 2 ^ s = Y at *
    have hy : Y = Y / 4294967296 * 4294967296 + Y % 4294967296 := by omega
    have hH : Halves (Y / 4294967296) (Y % 4294967296) n (m / 4294967296) := ⟨by omega, by omega, by omega, by omega, by omega, by omega, n0, by omega⟩
    obtain ⟨tr, tr0, tr1⟩ := trial_first hH
    obtain ⟨Q1, Q0, a0, a1, b0, b1, r0, r1, hL⟩ := l0_ok Y _ _ n (m / 4294967296) (m % 4294967296) s hy hH (by omega) (by omega) 2 _ _ tr (by have := tr.r0; omega)
    have hd : Int.tdiv n (Y / 4294967296) = n / (Y / 4294967296) := Int.tdiv_eq_ediv_of_nonneg n0
    have hdr : 0 ≤ n / (Y / 4294967296) := tr.q0
    have hdr1 : n / (Y / 4294967296) ≤ 4294967297 := tr.q1
    have key : ∀ k, bits_Div64.f (k + 1) hi lo y = bits_Div64.l0 (k + 1) Y (s : Int) (Y / 4294967296) (Y % 4294967296) n (m / 4294967296) (m % 4294967296) (n / (Y / 4294967296)) (n - n / (Y / 4294967296) * (Y / 4294967296)) := by
      intro k
      unfold bits_Div64.f
      rw [if_neg (by omega), if_neg (by omega), if_neg hz, hE, Option.bind_some, ws, ws2, if_pos (by omega), if_pos (by omega), ey, if_neg (by omega), en, em, and32 Y (by omega) yb, and32 m m0 m1, hd, u64w_id (n / (Y / 4294967296)) hdr (by omega),
        u64w_id (n / (Y / 4294967296) * (Y / 4294967296)) tr0 (by omega), u64w_id (n - n / (Y / 4294967296) * (Y / 4294967296)) (by omega) (by omega)]
    have fin : (hi * 18446744073709551616 + lo) / y = Q1 * 4294967296 + Q0 ∧ (hi * 18446744073709551616 + lo) % y = shr .u64 ((n * 4294967296 + m / 4294967296 - Q1 * Y) * 4294967296 + m % 4294967296 - Q0 * Y) (s : Int) := by
      have e : (hi * 18446744073709551616 + lo) * 2 ^ s = (Q1 * 4294967296 + Q0) * Y + ((n * 4294967296 + m / 4294967296 - Q1 * Y) * 4294967296 + m % 4294967296 - Q0 * Y) := by
        rw [eU, Int.add_mul, Int.mul_right_comm]
        generalize Q1 * Y = a at *
        generalize Q0 * Y = b at *
        omega
      generalize (n * 4294967296 + m / 4294967296 - Q1 * Y) * 4294967296 + m % 4294967296 - Q0 * Y = R at *
      generalize Q1 * 4294967296 + Q0 = Q at *
      generalize hi * 18446744073709551616 + lo = N at *
      have e2 : R = (N - Q * y) * 2 ^ s := by
        rw [Int.sub_mul, e, ← hY, Int.mul_assoc]
        omega
      have e3 : shr .u64 R (s : Int) = N - Q * y := by
        unfold shr
        rw [Int.toNat_natCast, Nat.min_eq_left (by show s ≤ 64; omega), e2, Int.mul_ediv_cancel _ (Int.ne_of_gt hp)]
      have f0 : 0 ≤ N - Q * y := by
        rcases (by omega : 0 ≤ N - Q * y ∨ N - Q * y < 0) with g | g
        · exact g
        · have := Int.mul_neg_of_neg_of_pos g hp
          omega
      have f1 : N - Q * y < y := by
        rcases (by omega : N - Q * y < y ∨ y ≤ N - Q * y) with g | g
        · exact g
        · have := Int.mul_le_mul_of_nonneg_right g (Int.le_of_lt hp)
          omega
      rw [e3]
      have hN : N = (N - Q * y) + y * Q := by rw [Int.mul_comm y Q]; omega
      generalize N - Q * y = z at *
      subst hN
      rw [Int.add_mul_ediv_left _ _ (by omega), Int.ediv_eq_zero_of_lt f0 f1, Int.zero_add, Int.add_mul_emod_self_left, Int.emod_eq_of_lt f0 f1]
      exact ⟨rfl, rfl⟩
    rw [fin.1, fin.2]
    obtain ⟨K, hK⟩ := hL
    refine ⟨K + 1, fun k hk => ?_⟩
    obtain ⟨j, rfl⟩ : ∃ j, k = j + 1 := ⟨k - 1, by omega⟩
    have := key j
    unfold bits_Div64.f at this
    exact this.trans (hK (j + 1) (by omega))
def mdOk (a b c : Int) : Prop := (0 ≤ a ∧ a ≤ 1000000000000000) ∧ (0 ≤ b ∧ b ≤ 1000000000000000) ∧ (1 ≤ c ∧ c ≤ 1000000000000000) ∧ a * b / c ≤ 1000000000000000
instance (a b c : Int) : Decidable (mdOk a b c) := by unfold mdOk; exact inferInstance
def mdR (a b c : Int) : Int × Int × Bool := if mdOk a b c then (a * b / c, a * b % c, true) else (0, 0, false)
theorem md_no {a b c : Int} (h : ¬ mdOk a b c) : mdR a b c = (0, 0, false) := if_neg h
theorem md_yes {a b c : Int} (h : mdOk a b c) : mdR a b c = (a * b / c, a * b % c, true) := if_pos h
theorem gates {ρ : Type} {A B C : Prop} [Decidable A] [Decidable B] [Decidable C] (f : Nat → Bool → Option ρ) (r : ρ) (hb : ¬ (A ∧ B ∧ C) → Ev (fun k => f k true) r) (hg : A → B → C → Ev (fun k => f k false) r) :
    Ev (fun k => if decide A = true then (if decide B = true then f k (!decide C) else f k true) else f k true) r := by
  by_cases ha : A
  · by_cases hb2 : B
    · by_cases hc : C
      · exact Ev.congr (fun k => by rw [if_pos (decide_eq_true ha), if_pos (decide_eq_true hb2), decide_eq_true hc]; rfl) (hg ha hb2 hc)
      · exact Ev.congr (fun k => by rw [if_pos (decide_eq_true ha), if_pos (decide_eq_true hb2), decide_eq_false hc]; rfl) (hb fun h => hc h.2.2)
    · exact Ev.congr (fun k => by rw [if_pos (decide_eq_true ha), if_neg (by rw [decide_eq_false hb2]; decide)]) (hb fun h => hb2 h.2.1)
  · exact Ev.congr (fun k => by rw [if_neg (by rw [decide_eq_false ha]; decide)]) (hb fun h => ha h.1)
theorem mulDiv_i (a b c : Int) : Ev (fun k => impl_MulDiv.f k a b c) (mdR a b c) := by
  unfold impl_MulDiv.f
  simp only [in_i, Option.bind_some]
  have bad : ∀ h : ¬ mdOk a b c, Ev (fun k => impl_MulDiv.j0 k a b c true) (mdR a b c) := fun h => by
    rw [md_no h]
    exact Ev_one fun k => by simp only [impl_MulDiv.j0]; rw [if_pos trivial]
  refine gates (fun k z => impl_MulDiv.j0 k a b c z) _ (fun h => bad fun g => h ⟨g.1, g.2.1, g.2.2.1⟩) fun ha hb hc => ?_
  · · ·
        obtain ⟨a0, a1⟩ := ha
        obtain ⟨b0, b1⟩ := hb
        obtain ⟨c0, c1⟩ := hc
        have hp0 : 0 ≤ a * b := Int.mul_nonneg a0 b0
        have hp1 : a * b ≤ 1000000000000000 * 1000000000000000 := Int.mul_le_mul a1 b1 b0 (by decide)
        have hm : bits_Mul64.f a b = some (a * b / 18446744073709551616, a * b % 18446744073709551616) := by
          unfold bits_Mul64.f
          rw [mul64 a b a0 (by omega) b0 (by omega), u64w]
        have e : ∀ k, impl_MulDiv.j0 (k + 1) a b c false = if a * b / 18446744073709551616 ≥ c then some (0, 0, false) else (bits_Div64.f k (a * b / 18446744073709551616) (a * b % 18446744073709551616) c).bind fun z => (if z.1 > 1000000000000000 then (some (0, 0, false)) else (some (wrap64 z.1, wrap64 z.2, true))) := by
          intro k
          simp only [impl_MulDiv.j0]
          rw [if_neg (by decide), u64w_id a a0 (by omega), u64w_id b b0 (by omega), u64w_id c (by omega) (by omega), hm, Option.bind_some]
        have hq0 : 0 ≤ a * b / c := Int.ediv_nonneg hp0 (by omega)
        have hr0 : 0 ≤ a * b % c := Int.emod_nonneg _ (by omega)
        have hr1 : a * b % c < c := Int.emod_lt_of_pos _ (by omega)
        refine Ev.step e ?_
        by_cases hh : a * b / 18446744073709551616 ≥ c
        · have hno : ¬ mdOk a b c := fun h => by
            have h4 := h.2.2.2
            have h5 : 18446744073709551616 ≤ a * b / c := by
              rw [Int.le_ediv_iff_mul_le (by omega)]
              omega
            omega
          rw [md_no hno]
          exact Ev_all_k fun k => if_pos hh
        · refine Ev.congr (fun k => if_neg hh) ?_
          have hd := div64 (a * b / 18446744073709551616) (a * b % 18446744073709551616) c (by omega) (by omega) (by omega) (by omega) (by omega)
          rw [show a * b / 18446744073709551616 * 18446744073709551616 + a * b % 18446744073709551616 = a * b by omega] at hd
          refine Ev_bind hd (Ev_all_k fun k => ?_)
          by_cases hq : a * b / c ≤ 1000000000000000
          · rw [md_yes ⟨⟨a0, a1⟩, ⟨b0, b1⟩, ⟨c0, c1⟩, hq⟩, if_neg (by show ¬ a * b / c > _; omega)]
            show some (wrap64 (a * b / c), wrap64 (a * b % c), true) = _
            rw [w64_id _ (by omega) (by omega), w64_id _ (by omega) (by omega)]
          · rw [md_no (fun h => hq h.2.2.2), if_pos (by show a * b / c > _; omega)]
theorem some_s (x lo : Int) : spec_l1Some.f x lo = some (decide (lo ≤ x ∧ x ≤ 1000000000000000)) := by
  unfold spec_l1Some.f
  rw [in_s]
  rfl
theorem bit_is (a : Int) (i : Nat) (h0 : 0 ≤ a) (h1 : a ≤ 1000000000000000) (hi : i ≤ 63) : Go.bits .and .i64 (shr .i64 a (i : Int)) 1 = a / 2 ^ i % 2 := by
  have e : shr .i64 a (i : Int) = a / 2 ^ i := by
    unfold shr
    rw [Int.toNat_natCast, Nat.min_eq_left (by show i ≤ 64; omega)]
  rw [e]
  have hp : (0 : Int) < 2 ^ i := Int.pow_pos (by decide)
  have d0 : 0 ≤ a / 2 ^ i := Int.ediv_nonneg h0 (Int.le_of_lt hp)
  have d1 : a / 2 ^ i ≤ a := Int.ediv_le_self _ h0
  exact bits_mask .i64 63 (by decide) (fun n a b => by rw [IntKind.wrap_i64]; have : (2 : Int) ^ 63 = 9223372036854775808 := by decide
                                                       omega) 1 (by decide) _ d0 (by have : (2 : Int) ^ 63 = 9223372036854775808 := by decide
                                                                                     omega)
theorem sl0 (a b c : Int) (a0 : 0 ≤ a) (a1 : a ≤ 1000000000000000) (b0 : 0 ≤ b) (b1 : b ≤ 1000000000000000) (c0 : 1 ≤ c) (c1 : c ≤ 1000000000000000) :
    ∀ (m : Nat) (q r : Int), m ≤ 51 → 0 ≤ r → r < c → 0 ≤ q → q ≤ 1000000000000000 → q * c + r = a / 2 ^ m * b →
      Ev (fun k => spec_MulDiv.l0 k a b c q r ((m : Int) - 1)) (if a * b / c ≤ 1000000000000000 then (a * b / c, a * b % c, true) else (0, 0, false)) := by
  intro m
  induction m with
  | zero =>
    intro q r _ r0 r1 q0 q1 e
    rw [show a / 2 ^ 0 = a by rw [Int.pow_zero, Int.ediv_one]] at e
    have hN : a * b = r + c * q := by rw [← e, Int.mul_comm c q]; omega
    have hd : a * b / c = q := by rw [hN, Int.add_mul_ediv_left _ _ (by omega), Int.ediv_eq_zero_of_lt r0 r1, Int.zero_add]
    have hm : a * b % c = r := by rw [hN, Int.add_mul_emod_self_left, Int.emod_eq_of_lt r0 r1]
    rw [hd, hm, if_pos q1]
    exact Ev_one fun k => by simp only [spec_MulDiv.l0]; rw [if_neg (by omega)]
  | succ m ih =>
    intro q r hm r0 r1 q0 q1 e
    have hp : (0 : Int) < 2 ^ m := Int.pow_pos (by decide)
    have hA : a / 2 ^ (m + 1) = a / 2 ^ m / 2 := by rw [Int.pow_succ, Int.ediv_ediv_of_nonneg (Int.le_of_lt hp)]
    have d0 : 0 ≤ a / 2 ^ m := Int.ediv_nonneg a0 (Int.le_of_lt hp)
    have d1 : a / 2 ^ m ≤ a := Int.ediv_le_self _ a0
    rw [hA] at e
    have hbit := bit_is a m a0 a1 (by omega)
    -- too great a quotient stays too great
    have big : ∀ q' r' : Int, q' * c + r' = a / 2 ^ m * b → 0 ≤ r' → 1000000000000000 < q' → ¬ a * b / c ≤ 1000000000000000 := by
      intro q' r' e' r0' hq' hle
      have h1 : a / 2 ^ m * b ≤ a * b := Int.mul_le_mul_of_nonneg_right d1 b0
      have h2 : q' ≤ a * b / c := by
        rw [Int.le_ediv_iff_mul_le (by omega)]
        omega
      omega
    -- the doubled pair
    obtain ⟨q2, r2, hw, z0, z1, y0, y1, e2⟩ : ∃ q2 r2 : Int, (∀ k, spec_MulDiv.l0 (k + 1) a b c q r ((m + 1 : Nat) - 1 : Int) = spec_MulDiv.j2 k a b c q2 r2 (m : Int)) ∧ 0 ≤ r2 ∧ r2 < c ∧ 0 ≤ q2 ∧ q2 ≤ 2000000000000001 ∧ q2 * c + r2 = 2 * (a / 2 ^ m / 2 * b) := by
      have w1 : wrap64 (2 * r) = 2 * r := w64_id _ (by omega) (by omega)
      have w2 : wrap64 (2 * q) = 2 * q := w64_id _ (by omega) (by omega)
      have hi : (((m + 1 : Nat) : Int) - 1) = (m : Int) := by omega
      by_cases h : 2 * r ≥ c
      · refine ⟨2 * q + 1, 2 * r - c, fun k => ?_, by omega, by omega, by omega, by omega, ?_⟩
        · rw [hi]
          simp only [spec_MulDiv.l0]
          rw [if_pos (by omega), w1, if_pos h, w2, w64_id (2 * q + 1) (by omega) (by omega), w64_id (2 * r - c) (by omega) (by omega)]
        · rw [Int.add_mul, Int.one_mul, Int.mul_assoc, ← e]
          omega
      · refine ⟨2 * q, 2 * r, fun k => ?_, by omega, by omega, by omega, by omega, ?_⟩
        · rw [hi]
          simp only [spec_MulDiv.l0]
          rw [if_pos (by omega), w1, if_neg h, w2]
        · rw [Int.mul_assoc, ← e]
          omega
    refine Ev.step hw ?_
    have hodd : a / 2 ^ m * b = 2 * (a / 2 ^ m / 2 * b) + a / 2 ^ m % 2 * b := by
      have : a / 2 ^ m = 2 * (a / 2 ^ m / 2) + a / 2 ^ m % 2 := by omega
      generalize a / 2 ^ m = x at *
      conv => lhs; rw [this, Int.add_mul, Int.mul_assoc]
    have go : ∀ q3 r3 : Int, 0 ≤ r3 → r3 < c → 0 ≤ q3 → q3 * c + r3 = a / 2 ^ m * b → (f : Nat → Option (Int × Int × Bool)) → (∀ k, f k = if q3 > 1000000000000000 then some (0, 0, false) else spec_MulDiv.l0 k a b c q3 r3 ((m : Int) - 1)) → Ev f (if a * b / c ≤ 1000000000000000 then (a * b / c, a * b % c, true) else (0, 0, false)) := by
      intro q3 r3 x0 x1 x2 e3 f hf
      by_cases hq : q3 > 1000000000000000
      · rw [if_neg (big q3 r3 e3 x0 (by omega))]
        exact Ev_all_k fun k => by rw [hf, if_pos hq]
      · exact Ev.congr (fun k => by rw [hf, if_neg hq]) (ih q3 r3 (by omega) x0 x1 x2 (by omega) e3)
    have wm : wrap64 ((m : Int) - 1) = (m : Int) - 1 := w64_id _ (by omega) (by omega)
    by_cases hb : a / 2 ^ m % 2 = 1
    · have t0 : 0 ≤ b / c := Int.ediv_nonneg b0 (by omega)
      have t1 : b / c ≤ b := Int.ediv_le_self _ b0
      have t2 : 0 ≤ b % c := Int.emod_nonneg _ (by omega)
      have t3 : b % c < c := Int.emod_lt_of_pos _ (by omega)
      have t4 : b / c * c + b % c = b := by have := Int.mul_ediv_add_emod b c; rw [Int.mul_comm]; exact this
      have td : Int.tdiv b c = b / c := Int.tdiv_eq_ediv_of_nonneg b0
      have tm : Int.tmod b c = b % c := Int.tmod_eq_emod_of_nonneg b0
      rw [hb, Int.one_mul] at hodd
      have w1 : wrap64 (r2 + b % c) = r2 + b % c := w64_id _ (by omega) (by omega)
      have w2 : wrap64 (b / c) = b / c := w64_id _ (by omega) (by omega)
      have w3 : wrap64 (q2 + b / c) = q2 + b / c := w64_id _ (by omega) (by omega)
      have w4 : wrap64 (q2 + b / c + 1) = q2 + b / c + 1 := w64_id _ (by omega) (by omega)
      by_cases h : r2 + b % c ≥ c
      · have w5 : wrap64 (r2 + b % c - c) = r2 + b % c - c := w64_id _ (by omega) (by omega)
        refine Ev.step (fun k => rfl) (go (q2 + b / c + 1) (r2 + b % c - c) (by omega) (by omega) (by omega) ?_ _ fun k => ?_)
        · rw [Int.add_mul, Int.add_mul, Int.one_mul, hodd, ← e2]
          omega
        · simp only [spec_MulDiv.j2]
          rw [if_pos (by omega), hbit, if_pos hb, if_neg (by omega), tm, td, w1, if_pos h, w2, w3, w4, w5, wm]
      · refine Ev.step (fun k => rfl) (go (q2 + b / c) (r2 + b % c) (by omega) (by omega) (by omega) ?_ _ fun k => ?_)
        · rw [Int.add_mul, hodd, ← e2]
          omega
        · simp only [spec_MulDiv.j2]
          rw [if_pos (by omega), hbit, if_pos hb, if_neg (by omega), tm, td, w1, if_neg h, w2, w3, wm]
    · have hb0 : a / 2 ^ m % 2 = 0 := by omega
      rw [hb0, Int.zero_mul, Int.add_zero] at hodd
      refine Ev.step (fun k => rfl) (go q2 r2 z0 z1 y0 (by rw [e2, hodd]) _ fun k => ?_)
      simp only [spec_MulDiv.j2]
      rw [if_pos (by omega), hbit, if_neg hb, wm]
theorem mulDiv_s (a b c : Int) : Ev (fun k => spec_MulDiv.f k a b c) (mdR a b c) := by
  unfold spec_MulDiv.f
  simp only [some_s, Option.bind_some]
  have bad : ∀ h : ¬ mdOk a b c, Ev (fun k => spec_MulDiv.j0 k a b c true) (mdR a b c) := fun h => by
    rw [md_no h]
    exact Ev_one fun k => by simp only [spec_MulDiv.j0]; rw [if_pos trivial]
  refine gates (fun k z => spec_MulDiv.j0 k a b c z) _ (fun h => bad fun g => h ⟨g.1, g.2.1, g.2.2.1⟩) fun ha hb hc => ?_
  · · ·
        refine Ev.step (f := fun k => spec_MulDiv.l0 k a b c 0 0 50) (fun k => by simp only [spec_MulDiv.j0]; rw [if_neg (by decide)]) ?_
        have h := sl0 a b c ha.1 ha.2 hb.1 hb.2 hc.1 hc.2 51 0 0 (Nat.le_refl _) (by omega) (by omega) (by omega) (by omega) (by
          rw [show a / 2 ^ 51 = 0 from Int.ediv_eq_zero_of_lt ha.1 (by have : (2 : Int) ^ 51 = 2251799813685248 := by decide
                                                                       omega)]
          simp)
        have e : mdR a b c = if a * b / c ≤ 1000000000000000 then (a * b / c, a * b % c, true) else (0, 0, false) := by
          by_cases hq : a * b / c ≤ 1000000000000000
          · rw [md_yes ⟨ha, hb, hc, hq⟩, if_pos hq]
          · rw [md_no (fun h => hq h.2.2.2), if_neg hq]
        rw [e]
        exact h
end Go.Proofs.Ytpnejhelandclaa.A2
namespace Go.Proofs.Ytpnejhelandclaa.W2
open Go Go.RowKit Go.Proofs.Ytpnejhelandclaa.P Go.Proofs.YtpnejhelandclaaW.PrintWords Go.Proofs.YtpnejhelandclaaW.PrintLast Go.Proofs.Ytpnejhelandclaa.EV Go.Proofs.Ytpnejhelandclaa.I1 Go.Proofs.Ytpnejhelandclaa.A2 Go.Proofs.Ytpnejhelandclaa.TI Go.Proofs.Ytpnejhelandclaa.W1
def InT (t : Int) : Prop := 0 ≤ t ∧ t ≤ 1000000000000000
instance (t : Int) : Decidable (InT t) := by unfold InT; exact inferInstance
open Classical in
noncomputable def quota (t : Int) (l : List Int) (i : Int) : Int × Int × Bool := if OkW l ∧ InT t ∧ 0 ≤ i ∧ i < l.length then mdR t (rd l i) l.sum else (0, 0, false)
theorem shareable_i (t : Int) (l : List Int) : Ev (fun k => impl_shareable.f k t l) (okW l && decide (InT t)) := by
  unfold impl_shareable.f
  refine Ev_bind (weightsOk_i l) (Ev_all_k fun k => ?_)
  cases okW l with
  | true => rw [if_pos rfl, in_i, Option.bind_some]; rfl
  | false => rw [if_neg (by decide)]; rfl
theorem quota_no {t : Int} {l : List Int} {i : Int} (h : ¬ (OkW l ∧ InT t ∧ 0 ≤ i ∧ i < l.length)) : quota t l i = (0, 0, false) := if_neg h
theorem quota_yes {t : Int} {l : List Int} {i : Int} (h : OkW l ∧ InT t ∧ 0 ≤ i ∧ i < l.length) : quota t l i = mdR t (rd l i) l.sum := if_pos h
theorem quota_i (t : Int) (l : List Int) (i : Int) : Ev (fun k => impl_ShareQuota.f k t l i) (quota t l i) := by
  unfold impl_ShareQuota.f
  refine Ev_bind (shareable_i t l) ?_
  by_cases h : OkW l
  · by_cases ht : InT t
    · have e : (okW l && decide (InT t)) = true := by rw [(okW_iff l).2 h, decide_eq_true ht]; rfl
      have hl := h.1
      refine Ev.congr (f := fun k => impl_ShareQuota.j0 k t l i (!decide (0 ≤ i ∧ i ≤ (l.length : Int) - 1))) (fun k => by rw [if_pos e, in_i, Option.bind_some, w64_in _ (by omega) (by omega)]) ?_
      by_cases hi : 0 ≤ i ∧ i ≤ (l.length : Int) - 1
      · rw [quota_yes ⟨h, ht, hi.1, by omega⟩]
        refine Ev.step (f := fun k => (impl_sumOf.f k l).bind fun t154 => ((impl_MulDiv.f k t (rd l i) t154).bind fun bt155 => (some (bt155.1, bt155.2.1, bt155.2.2)))) (fun k => by
          simp only [impl_ShareQuota.j0]
          rw [if_neg (by rw [decide_eq_true hi]; decide), if_pos hi.1, if_pos (by omega)]) ?_
        exact Ev_bind (all_i h.few) (Ev_bind (mulDiv_i _ _ _) (Ev_all_k fun k => rfl))
      · rw [quota_no fun g => hi ⟨g.2.2.1, by omega⟩]
        exact Ev_one fun k => by
          simp only [impl_ShareQuota.j0]
          rw [if_pos (by rw [decide_eq_false hi]; rfl)]
    · rw [quota_no fun g => ht g.2.1]
      refine Ev.congr (f := fun k => impl_ShareQuota.j0 k t l i true) (fun k => by rw [if_neg (by rw [decide_eq_false ht, Bool.and_false]; decide)]) ?_
      exact Ev_one fun k => by
        simp only [impl_ShareQuota.j0]
        rw [if_pos trivial]
  · rw [quota_no fun g => h g.1]
    refine Ev.congr (f := fun k => impl_ShareQuota.j0 k t l i true) (fun k => by rw [if_neg (by rw [okW_no h, Bool.false_and]; decide)]) ?_
    exact Ev_one fun k => by
      simp only [impl_ShareQuota.j0]
      rw [if_pos trivial]
theorem quota_s (t : Int) (l : List Int) (i : Int) : Ev (fun k => spec_ShareQuota.f k t l i) (quota t l i) := by
  unfold spec_ShareQuota.f
  refine Ev_bind (weightsOk_s l) ?_
  by_cases h : OkW l
  · by_cases ht : InT t
    · have hl := h.1
      refine Ev.congr (f := fun k => spec_ShareQuota.j0 k t l i (!decide (0 ≤ i ∧ i ≤ (l.length : Int) - 1))) (fun k => by rw [if_pos ((okW_iff l).2 h), some_s1, Option.bind_some, if_pos (decide_eq_true (show 0 ≤ t ∧ t ≤ 1000000000000000 from ht)), in_s, Option.bind_some, w64_in _ (by omega) (by omega)]) ?_
      by_cases hi : 0 ≤ i ∧ i ≤ (l.length : Int) - 1
      · rw [quota_yes ⟨h, ht, hi.1, by omega⟩]
        refine Ev.step (f := fun k => (spec_l2All.f k l).bind fun t136 => ((spec_MulDiv.f k t (rd l i) t136).bind fun bt137 => (some (bt137.1, bt137.2.1, bt137.2.2)))) (fun k => by
          simp only [spec_ShareQuota.j0]
          rw [if_neg (by rw [decide_eq_true hi]; decide), if_pos hi.1, if_pos (by omega)]) ?_
        exact Ev_bind (all_s h.few) (Ev_bind (mulDiv_s _ _ _) (Ev_all_k fun k => rfl))
      · rw [quota_no fun g => hi ⟨g.2.2.1, by omega⟩]
        exact Ev_one fun k => by
          simp only [spec_ShareQuota.j0]
          rw [if_pos (by rw [decide_eq_false hi]; rfl)]
    · rw [quota_no fun g => ht g.2.1]
      refine Ev.congr (f := fun k => spec_ShareQuota.j0 k t l i true) (fun k => by rw [if_pos ((okW_iff l).2 h), some_s1, Option.bind_some, if_neg (by unfold InT at ht; rw [decide_eq_false ht]; decide)]) ?_
      exact Ev_one fun k => by
        simp only [spec_ShareQuota.j0]
        rw [if_pos trivial]
  · rw [quota_no fun g => h g.1]
    refine Ev.congr (f := fun k => spec_ShareQuota.j0 k t l i true) (fun k => by rw [if_neg (by rw [okW_no h]; decide)]) ?_
    exact Ev_one fun k => by
      simp only [spec_ShareQuota.j0]
      rw [if_pos trivial]
end Go.Proofs.Ytpnejhelandclaa.W2
namespace Go.Proofs.Ytpnejhelandclaa.S1
section
variable {α : Type} (lt : α → α → Prop) [DecidableRel lt]
def mrg : List α → List α → List α
  | [], ys => ys
  | x :: xs, [] => x :: xs
  | x :: xs, y :: ys => if lt y x then y :: mrg (x :: xs) ys else x :: mrg xs (y :: ys)
termination_by xs ys => xs.length + ys.length
theorem mrg_nil (xs : List α) : mrg lt xs [] = xs := by cases xs <;> simp [mrg]
theorem nil_mrg (ys : List α) : mrg lt [] ys = ys := by simp [mrg]
theorem mrg_perm : ∀ (xs ys : List α), (mrg lt xs ys).Perm (xs ++ ys)
  | [], ys => by rw [nil_mrg]; exact List.Perm.refl _
  | x :: xs, [] => by rw [mrg_nil, List.append_nil]
  | x :: xs, y :: ys => by
    rw [mrg]
    split
    · refine ((mrg_perm (x :: xs) ys).cons y).trans ?_
      exact (List.perm_middle (l₁ := x :: xs) (l₂ := ys) (a := y)).symm
    · exact (mrg_perm xs (y :: ys)).cons x
termination_by xs ys => xs.length + ys.length
theorem mrg_halves : ∀ (A1 A2 B1 B2 : List α), (∀ x ∈ A1, ∀ y ∈ B2, ¬lt y x) → (∀ y ∈ B1, ∀ x ∈ A2, lt y x) → mrg lt (A1 ++ A2) (B1 ++ B2) = mrg lt A1 B1 ++ mrg lt A2 B2
  | [], A2, [], B2, _, _ => by simp [mrg]
  | [], [], y :: ys, B2, _, _ => by simp [mrg]
  | [], x :: xs, y :: ys, B2, h1, h2 => by
    have ih := mrg_halves [] (x :: xs) ys B2 (fun a ha => by cases ha) fun b hb a ha => h2 b (List.mem_cons_of_mem _ hb) a ha
    simp only [List.nil_append, List.cons_append, nil_mrg] at ih ⊢
    rw [mrg, if_pos (h2 y (List.mem_cons_self ..) x (List.mem_cons_self ..)), ih]
  | x :: xs, A2, [], [], _, _ => by simp [mrg_nil]
  | x :: xs, A2, [], y :: ys, h1, h2 => by
    have ih := mrg_halves xs A2 [] (y :: ys) (fun a ha => h1 a (List.mem_cons_of_mem _ ha)) fun b hb => by cases hb
    simp only [List.nil_append, List.cons_append, mrg_nil] at ih ⊢
    rw [mrg, if_neg (h1 x (List.mem_cons_self ..) y (List.mem_cons_self ..)), ih]
  | x :: xs, A2, y :: ys, B2, h1, h2 => by
    simp only [List.cons_append]
    by_cases h : lt y x
    · have ih := mrg_halves (x :: xs) A2 ys B2 h1 fun b hb => h2 b (List.mem_cons_of_mem _ hb)
      simp only [List.cons_append] at ih
      rw [mrg, if_pos h, ih, mrg, if_pos h, List.cons_append]
    · have ih := mrg_halves xs A2 (y :: ys) B2 (fun a ha => h1 a (List.mem_cons_of_mem _ ha)) h2
      simp only [List.cons_append] at ih
      rw [mrg, if_neg h, ih, mrg, if_neg h, List.cons_append]
termination_by A1 _ B1 _ => A1.length + B1.length
theorem mrg_pw (hT : ∀ {x y z : α}, lt x y → lt y z → lt x z) : ∀ (xs ys : List α), xs.Pairwise lt → ys.Pairwise lt → (∀ x ∈ xs, ∀ y ∈ ys, lt y x ∨ lt x y) → (mrg lt xs ys).Pairwise lt
  | [], ys, _, h, _ => by rw [nil_mrg]; exact h
  | x :: xs, [], h, _, _ => by rw [mrg_nil]; exact h
  | x :: xs, y :: ys, hx, hy, hk => by
    have hx2 := List.pairwise_cons.1 hx
    have hy2 := List.pairwise_cons.1 hy
    rw [mrg]
    split
    · rename_i hl
      refine List.pairwise_cons.2 ⟨fun z hz => ?_, mrg_pw hT (x :: xs) ys hx hy2.2 fun a ha b hb => hk a ha b (List.mem_cons_of_mem _ hb)⟩
      rcases List.mem_append.1 ((mrg_perm lt (x :: xs) ys).mem_iff.1 hz) with h | h
      · rcases List.mem_cons.1 h with e | h
        · rw [e]; exact hl
        · exact hT hl (hx2.1 z h)
      · exact hy2.1 z h
    · rename_i hl
      have hl2 : lt x y := (hk x (List.mem_cons_self ..) y (List.mem_cons_self ..)).resolve_left hl
      refine List.pairwise_cons.2 ⟨fun z hz => ?_, mrg_pw hT xs (y :: ys) hx2.2 hy fun a ha b hb => hk a (List.mem_cons_of_mem _ ha) b hb⟩
      rcases List.mem_append.1 ((mrg_perm lt xs (y :: ys)).mem_iff.1 hz) with h | h
      · exact hx2.1 z h
      · rcases List.mem_cons.1 h with e | h
        · rw [e]; exact hl2
        · exact hT hl2 (hy2.1 z h)
termination_by xs ys => xs.length + ys.length
end
end Go.Proofs.Ytpnejhelandclaa.S1
namespace Go.Proofs.Ytpnejhelandclaa.S2
open Go.Proofs.Ytpnejhelandclaa.S1
section
variable {α : Type} [Inhabited α]
def swap1 (l : List α) (i j : Nat) : List α := (l.set i (l.getD j default)).set j (l.getD i default)
def swapR (l : List α) (a b : Nat) : Nat → List α
  | 0 => l
  | n + 1 => swap1 (swapR l a b n) (a + n) (b + n)
theorem swap1_seg (P M Q : List α) (x y : α) : swap1 (P ++ x :: (M ++ y :: Q)) P.length (P.length + 1 + M.length) = P ++ y :: (M ++ x :: Q) := by
  have e1 : (P ++ x :: (M ++ y :: Q)).getD P.length default = x := by simp
  have e2 : (P ++ x :: (M ++ y :: Q)).getD (P.length + 1 + M.length) default = y := by
    rw [List.getD_eq_getElem?_getD, List.getElem?_append_right (by omega), show P.length + 1 + M.length - P.length = M.length + 1 by omega, List.getElem?_cons_succ, List.getElem?_append_right (Nat.le_refl _), Nat.sub_self]
    rfl
  unfold swap1
  rw [e1, e2, List.set_append_right _ _ (Nat.le_refl _), Nat.sub_self, List.set_cons_zero, List.set_append_right _ _ (by omega), show P.length + 1 + M.length - P.length = M.length + 1 by omega, List.set_cons_succ, List.set_append_right _ _ (Nat.le_refl _), Nat.sub_self, List.set_cons_zero]
theorem swapR_seg : ∀ (n : Nat) (P X M Y Q : List α), X.length = n → Y.length = n → swapR (P ++ (X ++ (M ++ (Y ++ Q)))) P.length (P.length + n + M.length) n = P ++ (Y ++ (M ++ (X ++ Q)))
  | 0, P, X, M, Y, Q, hx, hy => by
    rw [List.length_eq_zero_iff.1 hx, List.length_eq_zero_iff.1 hy]
    rfl
  | n + 1, P, X, M, Y, Q, hx, hy => by
    obtain ⟨X', x, rfl⟩ : ∃ X' x, X = X' ++ [x] := ⟨X.dropLast, X.getLast (by intro h; rw [h] at hx; cases hx), (List.dropLast_concat_getLast _).symm⟩
    obtain ⟨Y', y, rfl⟩ : ∃ Y' y, Y = Y' ++ [y] := ⟨Y.dropLast, Y.getLast (by intro h; rw [h] at hy; cases hy), (List.dropLast_concat_getLast _).symm⟩
    have hx' : X'.length = n := by simpa using hx
    have hy' : Y'.length = n := by simpa using hy
    have ih := swapR_seg n P X' ([x] ++ M) Y' ([y] ++ Q) hx' hy'
    have e : P.length + n + ([x] ++ M).length = P.length + (n + 1) + M.length := by simp; omega
    rw [e] at ih
    have e2 : P ++ ((X' ++ [x]) ++ (M ++ ((Y' ++ [y]) ++ Q))) = P ++ (X' ++ (([x] ++ M) ++ (Y' ++ ([y] ++ Q)))) := by simp
    rw [swapR, e2, ih]
    have h := swap1_seg (P ++ Y') (M ++ X') Q x y
    have l1 : (P ++ Y').length = P.length + n := by simp [hy']
    have l2 : (P ++ Y').length + 1 + (M ++ X').length = P.length + (n + 1) + M.length + n := by simp [hx', hy']; omega
    rw [l2, l1] at h
    have e3 : P ++ (Y' ++ (([x] ++ M) ++ (X' ++ ([y] ++ Q)))) = (P ++ Y') ++ x :: ((M ++ X') ++ y :: Q) := by simp
    rw [e3, h]
    simp
def rot (l : List α) (m : Nat) : Nat → Nat → Nat → List α
  | 0, _, _ => l
  | k + 1, i, j => if i = j then swapR l (m - i) m i else if i > j then rot (swapR l (m - i) m j) m k (i - j) j else rot (swapR l (m - i) (m + j - i) i) m k i (j - i)
theorem rot_seg : ∀ (k : Nat) (P X Y Q : List α), X.length + Y.length ≤ k → 0 < X.length → 0 < Y.length → rot (P ++ (X ++ (Y ++ Q))) (P.length + X.length) k X.length Y.length = P ++ (Y ++ (X ++ Q))
  | 0, P, X, Y, Q, h, h0, _ => by omega
  | k + 1, P, X, Y, Q, h, h0, h1 => by
    rw [rot]
    split
    · rename_i e
      have := swapR_seg X.length P X [] Y Q rfl e.symm
      simp only [List.nil_append, List.length_nil, Nat.add_zero] at this
      rw [show P.length + X.length - X.length = P.length by omega]
      exact this
    · rename_i e
      split
      · rename_i g
        obtain ⟨X1, X2, rfl, hX1⟩ : ∃ X1 X2, X = X1 ++ X2 ∧ X1.length = Y.length := ⟨X.take Y.length, X.drop Y.length, (List.take_append_drop _ _).symm, by rw [List.length_take]; omega⟩
        have hs := swapR_seg Y.length P X1 X2 Y Q hX1 rfl
        have e1 : P ++ ((X1 ++ X2) ++ (Y ++ Q)) = P ++ (X1 ++ (X2 ++ (Y ++ Q))) := by simp
        have e2 : P.length + (X1 ++ X2).length = P.length + Y.length + X2.length := by rw [List.length_append]; omega
        rw [e1, e2, show P.length + Y.length + X2.length - (X1 ++ X2).length = P.length by rw [List.length_append]; omega, hs, show (X1 ++ X2).length - Y.length = X2.length by rw [List.length_append]; omega]
        have ih := rot_seg k (P ++ Y) X2 X1 Q (by rw [List.length_append] at h; omega) (by rw [List.length_append] at g; omega) (by omega)
        rw [hX1, List.length_append] at ih
        have e3 : P ++ (Y ++ (X2 ++ (X1 ++ Q))) = (P ++ Y) ++ (X2 ++ (X1 ++ Q)) := by simp
        rw [e3, ih]
        simp
      · rename_i g
        have g' : X.length < Y.length := by omega
        obtain ⟨Y1, Y2, rfl, hY2⟩ : ∃ Y1 Y2, Y = Y1 ++ Y2 ∧ Y2.length = X.length := ⟨Y.take (Y.length - X.length), Y.drop (Y.length - X.length), (List.take_append_drop _ _).symm, by rw [List.length_drop]; omega⟩
        have hs := swapR_seg X.length P X Y1 Y2 Q rfl hY2
        have e1 : P ++ (X ++ ((Y1 ++ Y2) ++ Q)) = P ++ (X ++ (Y1 ++ (Y2 ++ Q))) := by simp
        have hl : (Y1 ++ Y2).length = Y1.length + X.length := by rw [List.length_append, hY2]
        rw [e1, hl, show P.length + X.length - X.length = P.length by omega, show P.length + X.length + (Y1.length + X.length) - X.length = P.length + X.length + Y1.length by omega, hs, show Y1.length + X.length - X.length = Y1.length by omega]
        have ih := rot_seg k P Y2 Y1 (X ++ Q) (by rw [hl] at h; omega) (by omega) (by rw [hl] at g'; omega)
        rw [hY2] at ih
        have e3 : P ++ (Y2 ++ (Y1 ++ (X ++ Q))) = P ++ (Y2 ++ (Y1 ++ (X ++ Q))) := rfl
        rw [ih]
        simp
end
def bs (P : Nat → Bool) : Nat → Nat → Nat → Nat
  | 0, s, _ => s
  | k + 1, s, r => if s < r then (if P ((s + r) / 2) = true then bs P k ((s + r) / 2 + 1) r else bs P k s ((s + r) / 2)) else s
theorem bs_ok (P : Nat → Bool) : ∀ (k s r : Nat), r - s ≤ k → s ≤ r → (∀ c d, s ≤ c → c ≤ d → d < r → P d = true → P c = true) →
    s ≤ bs P k s r ∧ bs P k s r ≤ r ∧ (∀ c, s ≤ c → c < bs P k s r → P c = true) ∧ ∀ c, bs P k s r ≤ c → c < r → P c = false
  | 0, s, r, h, hs, _ => by
    simp only [bs]
    exact ⟨Nat.le_refl _, hs, fun c h1 h2 => by omega, fun c h1 h2 => by omega⟩
  | k + 1, s, r, h, hs, hm => by
    rw [bs]
    by_cases h0 : s < r
    · rw [if_pos h0]
      by_cases hp : P ((s + r) / 2) = true
      · rw [if_pos hp]
        obtain ⟨i1, i2, i3, i4⟩ := bs_ok P k ((s + r) / 2 + 1) r (by omega) (by omega) (fun c d h1 h2 h3 => hm c d (by omega) h2 h3)
        refine ⟨by omega, i2, fun c h1 h2 => ?_, i4⟩
        by_cases hc : c ≤ (s + r) / 2
        · exact hm c ((s + r) / 2) h1 hc (by omega) hp
        · exact i3 c (by omega) h2
      · rw [if_neg hp]
        obtain ⟨i1, i2, i3, i4⟩ := bs_ok P k s ((s + r) / 2) (by omega) (by omega) (fun c d h1 h2 h3 => hm c d h1 h2 (by omega))
        refine ⟨i1, by omega, i3, fun c h1 h2 => ?_⟩
        by_cases hc : c < (s + r) / 2
        · exact i4 c h1 hc
        · cases hq : P c with
          | false => rfl
          | true => exact absurd (hm ((s + r) / 2) c (by omega) (by omega) h2 hq) hp
    · rw [if_neg h0]
      exact ⟨Nat.le_refl _, hs, fun c h1 h2 => by omega, fun c h1 h2 => by omega⟩
end Go.Proofs.Ytpnejhelandclaa.S2
namespace Go.Proofs.Ytpnejhelandclaa.S3
open Go.Proofs.Ytpnejhelandclaa.S1 Go.Proofs.Ytpnejhelandclaa.S2
section
variable {α : Type} (lt : α → α → Prop) [DecidableRel lt]
theorem mrg_one (x : α) (B1 B2 : List α) (h1 : ∀ y ∈ B1, lt y x) (h2 : ∀ y ∈ B2, ¬lt y x) : mrg lt [x] (B1 ++ B2) = B1 ++ x :: B2 := by
  have h := mrg_halves lt [] [x] B1 B2 (fun a ha => by cases ha) (fun y hy a ha => by rw [List.mem_singleton.1 ha]; exact h1 y hy)
  rw [List.nil_append, nil_mrg] at h
  rw [h]
  have h3 := mrg_halves lt [x] [] [] B2 (fun a ha y hy => by rw [List.mem_singleton.1 ha]; exact h2 y hy) (fun y hy => by cases hy)
  rw [List.append_nil, List.nil_append, mrg_nil, nil_mrg] at h3
  rw [h3]
  rfl
theorem mrg_last (y : α) (A1 A2 : List α) (h1 : ∀ x ∈ A1, ¬lt y x) (h2 : ∀ x ∈ A2, lt y x) : mrg lt (A1 ++ A2) [y] = A1 ++ y :: A2 := by
  have h := mrg_halves lt A1 A2 [] [y] (fun x hx b hb => by rw [List.mem_singleton.1 hb]; exact h1 x hx) (fun b hb => by cases hb)
  rw [List.nil_append, mrg_nil] at h
  rw [h]
  have h3 := mrg_halves lt [] A2 [y] [] (fun a ha => by cases ha) (fun b hb x hx => by rw [List.mem_singleton.1 hb]; exact h2 x hx)
  rw [List.append_nil, List.nil_append, mrg_nil, nil_mrg] at h3
  rw [h3]
  rfl
end
section
variable {α : Type} [Inhabited α]
def up (l : List α) : Nat → Nat → List α
  | _, 0 => l
  | k, n + 1 => up (swap1 l k (k + 1)) (k + 1) n
def down (l : List α) : Nat → Nat → List α
  | _, 0 => l
  | k, n + 1 => down (swap1 l k (k - 1)) (k - 1) n
def symM (c : α → α → Bool) : Nat → List α → Nat → Nat → Nat → List α
  | 0, l, _, _, _ => l
  | k + 1, l, a, m, b =>
    if m - a = 1 then up l a (bs (fun h => c (l.getD h default) (l.getD a default)) (b - m) m b - 1 - a)
    else if b - m = 1 then down l m (m - bs (fun h => !c (l.getD m default) (l.getD h default)) (m - a) a m)
    else
      let mid := (a + b) / 2
      let s := bs (fun q => !c (l.getD (mid + m - 1 - q) default) (l.getD q default)) (b - a) (if m > mid then mid + m - b else a) (if m > mid then mid else m)
      let l1 := if s < m ∧ m < mid + m - s then rot l m (b - a) (m - s) (mid - s) else l
      let l2 := if a < s ∧ s < mid then symM c k l1 a s mid else l1
      if mid < mid + m - s ∧ mid + m - s < b then symM c k l2 mid (mid + m - s) b else l2
theorem up_seg : ∀ (Y P Q : List α) (x : α), up (P ++ x :: (Y ++ Q)) P.length Y.length = P ++ (Y ++ x :: Q)
  | [], P, Q, x => rfl
  | y :: Y, P, Q, x => by
    have h := swap1_seg P [] (Y ++ Q) x y
    simp only [List.nil_append, List.length_nil, Nat.add_zero] at h
    rw [List.length_cons, up]
    simp only [List.cons_append]
    rw [h]
    have ih := up_seg Y (P ++ [y]) Q x
    rw [List.length_append, List.length_singleton] at ih
    rw [show P ++ y :: x :: (Y ++ Q) = (P ++ [y]) ++ x :: (Y ++ Q) by simp, ih]
    simp
theorem swap1_comm (l : List α) (i j : Nat) (h : i ≠ j) : swap1 l i j = swap1 l j i := by
  unfold swap1
  exact List.set_comm _ _ h
theorem down_seg : ∀ (n : Nat) (X P Q : List α) (y : α), X.length = n → down (P ++ (X ++ y :: Q)) (P.length + n) n = P ++ y :: (X ++ Q)
  | 0, X, P, Q, y, h => by rw [List.length_eq_zero_iff.1 h]; rfl
  | n + 1, X, P, Q, y, h => by
    obtain ⟨X', x, rfl⟩ : ∃ X' x, X = X' ++ [x] := ⟨X.dropLast, X.getLast (by intro e; rw [e] at h; cases h), (List.dropLast_concat_getLast _).symm⟩
    have h' : X'.length = n := by simpa using h
    have hs := swap1_seg (P ++ X') [] Q x y
    simp only [List.nil_append, List.length_nil, Nat.add_zero] at hs
    have l1 : (P ++ X').length = P.length + n := by simp [h']
    rw [l1] at hs
    rw [down, show P.length + (n + 1) - 1 = P.length + n by omega, swap1_comm _ _ _ (by omega), show P.length + (n + 1) = P.length + n + 1 by omega, show P ++ ((X' ++ [x]) ++ y :: Q) = (P ++ X') ++ x :: y :: Q by simp, hs, show (P ++ X') ++ y :: x :: Q = P ++ (X' ++ y :: ([x] ++ Q)) by simp]
    rw [down_seg n X' P ([x] ++ Q) y h']
    simp
variable (lt : α → α → Prop)
theorem asc {A : List α} (h : A.Pairwise lt) {i j : Nat} (hij : i ≤ j) (hj : j < A.length) : A.getD i default = A.getD j default ∨ lt (A.getD i default) (A.getD j default) := by
  by_cases e : i = j
  · exact .inl (by rw [e])
  · right
    rw [List.getD_eq_getElem?_getD, List.getD_eq_getElem?_getD, List.getElem?_eq_getElem (by omega), List.getElem?_eq_getElem hj]
    exact (List.pairwise_iff_getElem.1 h) i j (by omega) hj (by omega)
theorem mem_getD {A : List α} {x : α} (h : x ∈ A) : ∃ i, i < A.length ∧ A.getD i default = x := by
  obtain ⟨i, hi, e⟩ := List.getElem_of_mem h
  exact ⟨i, hi, by rw [List.getD_eq_getElem?_getD, List.getElem?_eq_getElem hi]; exact e⟩
theorem getD_mem {A : List α} {i : Nat} (h : i < A.length) : A.getD i default ∈ A := by
  rw [List.getD_eq_getElem?_getD, List.getElem?_eq_getElem h]
  exact List.getElem_mem h
theorem getA (P A B Q : List α) (i : Nat) (h : i < A.length) : (P ++ (A ++ (B ++ Q))).getD (P.length + i) default = A.getD i default := by
  rw [List.getD_eq_getElem?_getD, List.getD_eq_getElem?_getD, List.getElem?_append_right (by omega), Nat.add_sub_cancel_left, List.getElem?_append_left h]
theorem getB (P A B Q : List α) (i : Nat) (h : i < B.length) : (P ++ (A ++ (B ++ Q))).getD (P.length + A.length + i) default = B.getD i default := by
  rw [List.getD_eq_getElem?_getD, List.getD_eq_getElem?_getD, List.getElem?_append_right (by omega), show P.length + A.length + i - P.length = A.length + i by omega, List.getElem?_append_right (by omega), Nat.add_sub_cancel_left, List.getElem?_append_left h]
theorem getD_take {A : List α} {i n : Nat} (h : i < n) : (A.take n).getD i default = A.getD i default := by
  rw [List.getD_eq_getElem?_getD, List.getD_eq_getElem?_getD, List.getElem?_take_of_lt h]
theorem getD_drop (A : List α) (i n : Nat) : (A.drop n).getD i default = A.getD (n + i) default := by
  rw [List.getD_eq_getElem?_getD, List.getD_eq_getElem?_getD, List.getElem?_drop]
variable [DecidableRel lt]
theorem symM_seg (c : α → α → Bool) (hT : ∀ {x y z : α}, lt x y → lt y z → lt x z) : ∀ (k : Nat) (P A B Q : List α), A.length + B.length ≤ k → 0 < A.length → 0 < B.length → A.Pairwise lt → B.Pairwise lt → (∀ y ∈ B, ∀ x ∈ A, (c y x = true ↔ lt y x)) →
    symM c k (P ++ (A ++ (B ++ Q))) P.length (P.length + A.length) (P.length + A.length + B.length) = P ++ (mrg lt A B ++ Q)
  | 0, P, A, B, Q, h, h0, _, _, _, _ => by omega
  | k + 1, P, A, B, Q, h, h0, h1, hA, hB, hc => by
    rw [symM]
    by_cases e1 : P.length + A.length - P.length = 1
    · rw [if_pos e1]
      obtain ⟨x, rfl⟩ : ∃ x, A = [x] := List.length_eq_one_iff.1 (by omega)
      have hx : (P ++ ([x] ++ (B ++ Q))).getD P.length default = x := by
        simp
      have gB : ∀ j, j < B.length → (P ++ ([x] ++ (B ++ Q))).getD (P.length + 1 + j) default = B.getD j default := fun j hj => getB P [x] B Q j hj
      have hm : ∀ j, j < B.length → (c (B.getD j default) x = true ↔ lt (B.getD j default) x) := fun j hj => hc _ (getD_mem hj) x (List.mem_cons_self ..)
      obtain ⟨i, hi⟩ : ∃ i, i = bs (fun h => c ((P ++ ([x] ++ (B ++ Q))).getD h default) ((P ++ ([x] ++ (B ++ Q))).getD P.length default)) (P.length + [x].length + B.length - (P.length + [x].length)) (P.length + [x].length) (P.length + [x].length + B.length) := ⟨_, rfl⟩
      have hb := bs_ok (fun h => c ((P ++ ([x] ++ (B ++ Q))).getD h default) ((P ++ ([x] ++ (B ++ Q))).getD P.length default)) (P.length + [x].length + B.length - (P.length + [x].length)) (P.length + [x].length) (P.length + [x].length + B.length) (by omega) (by omega) (by
        intro q d hq hd hr hp
        simp only [List.length_singleton] at hq hr
        obtain ⟨q', rfl⟩ : ∃ q', q = P.length + 1 + q' := ⟨q - (P.length + 1), by omega⟩
        obtain ⟨d', rfl⟩ : ∃ d', d = P.length + 1 + d' := ⟨d - (P.length + 1), by omega⟩
        simp only [hx] at hp ⊢
        rw [gB d' (by omega), hm d' (by omega)] at hp
        rw [gB q' (by omega), hm q' (by omega)]
        rcases asc lt hB (i := q') (j := d') (by omega) (by omega) with e | e
        · rw [e]; exact hp
        · exact hT e hp)
      rw [← hi] at hb ⊢
      obtain ⟨b1, b2, b3, b4⟩ := hb
      simp only [List.length_singleton, hx] at b1 b2 b3 b4
      obtain ⟨t, rfl⟩ : ∃ t, i = P.length + 1 + t := ⟨i - (P.length + 1), by omega⟩
      have ht : t ≤ B.length := by omega
      rw [show P.length + 1 + t - 1 - P.length = t by omega]
      have hu := up_seg (B.take t) P (B.drop t ++ Q) x
      rw [List.length_take, Nat.min_eq_left ht] at hu
      rw [show P ++ ([x] ++ (B ++ Q)) = P ++ x :: (B.take t ++ (B.drop t ++ Q)) by rw [← List.append_assoc (B.take t), List.take_append_drop]; rfl, hu]
      have hq := mrg_one lt x (B.take t) (B.drop t) (fun y hy => by
        obtain ⟨j, hj, rfl⟩ := mem_getD hy
        rw [List.length_take] at hj
        rw [getD_take (by omega), ← hm j (by omega), ← gB j (by omega)]
        exact b3 (P.length + 1 + j) (by omega) (by omega)) (fun y hy => by
        obtain ⟨j, hj, rfl⟩ := mem_getD hy
        rw [List.length_drop] at hj
        rw [getD_drop, ← hm (t + j) (by omega), ← gB (t + j) (by omega)]
        have := b4 (P.length + 1 + (t + j)) (by omega) (by omega)
        rw [this]
        decide)
      rw [List.take_append_drop] at hq
      rw [hq]
      simp
    · rw [if_neg e1]
      by_cases e2 : P.length + A.length + B.length - (P.length + A.length) = 1
      · rw [if_pos e2]
        obtain ⟨y, rfl⟩ : ∃ y, B = [y] := List.length_eq_one_iff.1 (by omega)
        have hy : (P ++ (A ++ ([y] ++ Q))).getD (P.length + A.length) default = y := by
          simp
        have gA : ∀ j, j < A.length → (P ++ (A ++ ([y] ++ Q))).getD (P.length + j) default = A.getD j default := fun j hj => getA P A [y] Q j hj
        have hm : ∀ j, j < A.length → (c y (A.getD j default) = true ↔ lt y (A.getD j default)) := fun j hj => hc y (List.mem_cons_self ..) _ (getD_mem hj)
        obtain ⟨i, hi⟩ : ∃ i, i = bs (fun h => !c ((P ++ (A ++ ([y] ++ Q))).getD (P.length + A.length) default) ((P ++ (A ++ ([y] ++ Q))).getD h default)) (P.length + A.length - P.length) P.length (P.length + A.length) := ⟨_, rfl⟩
        have hb := bs_ok (fun h => !c ((P ++ (A ++ ([y] ++ Q))).getD (P.length + A.length) default) ((P ++ (A ++ ([y] ++ Q))).getD h default)) (P.length + A.length - P.length) P.length (P.length + A.length) (by omega) (by omega) (by
          intro q d hq hd hr hp
          obtain ⟨q', rfl⟩ : ∃ q', q = P.length + q' := ⟨q - P.length, by omega⟩
          obtain ⟨d', rfl⟩ : ∃ d', d = P.length + d' := ⟨d - P.length, by omega⟩
          simp only [hy, Bool.not_eq_true'] at hp ⊢
          rw [gA d' (by omega)] at hp
          rw [gA q' (by omega)]
          cases hq2 : c y (A.getD q' default) with
          | false => rfl
          | true =>
            exfalso
            rw [hm q' (by omega)] at hq2
            have : lt y (A.getD d' default) := by
              rcases asc lt hA (i := q') (j := d') (by omega) (by omega) with e | e
              · rw [← e]; exact hq2
              · exact hT hq2 e
            rw [(hm d' (by omega)).2 this] at hp
            cases hp)
        rw [← hi] at hb ⊢
        obtain ⟨b1, b2, b3, b4⟩ := hb
        simp only [hy] at b3 b4
        obtain ⟨t, rfl⟩ : ∃ t, i = P.length + t := ⟨i - P.length, by omega⟩
        have ht : t ≤ A.length := by omega
        rw [show P.length + A.length - (P.length + t) = A.length - t by omega]
        have hd := down_seg (A.length - t) (A.drop t) (P ++ A.take t) Q y (by rw [List.length_drop])
        rw [List.length_append, List.length_take, Nat.min_eq_left ht, show P.length + t + (A.length - t) = P.length + A.length by omega] at hd
        rw [show P ++ (A ++ ([y] ++ Q)) = (P ++ A.take t) ++ (A.drop t ++ y :: Q) by rw [List.append_assoc, ← List.append_assoc (A.take t), List.take_append_drop]; rfl, hd]
        have hq := mrg_last lt y (A.take t) (A.drop t) (fun x hx => by
          obtain ⟨j, hj, rfl⟩ := mem_getD hx
          rw [List.length_take] at hj
          rw [getD_take (by omega), ← hm j (by omega), ← gA j (by omega)]
          have := b3 (P.length + j) (by omega) (by omega)
          rw [Bool.not_eq_true'] at this
          rw [this]
          decide) (fun x hx => by
          obtain ⟨j, hj, rfl⟩ := mem_getD hx
          rw [List.length_drop] at hj
          rw [getD_drop, ← hm (t + j) (by omega), ← gA (t + j) (by omega)]
          have := b4 (P.length + (t + j)) (by omega) (by omega)
          rwa [Bool.not_eq_false'] at this)
        rw [List.take_append_drop] at hq
        rw [hq]
        simp
      · rw [if_neg e2]
        have a2 : 2 ≤ A.length := by omega
        have b2 : 2 ≤ B.length := by omega
        dsimp only
        obtain ⟨mid, hmid⟩ : ∃ mid, mid = (P.length + (P.length + A.length + B.length)) / 2 := ⟨_, rfl⟩
        rw [← hmid]
        obtain ⟨lo, hlo⟩ : ∃ lo, lo = (if P.length + A.length > mid then mid + (P.length + A.length) - (P.length + A.length + B.length) else P.length) := ⟨_, rfl⟩
        obtain ⟨hi, hhi⟩ : ∃ hi, hi = (if P.length + A.length > mid then mid else P.length + A.length) := ⟨_, rfl⟩
        rw [← hlo, ← hhi]
        have hR : (P.length + A.length > mid ∧ lo + B.length = mid ∧ hi = mid) ∨ (P.length + A.length ≤ mid ∧ lo = P.length ∧ hi = P.length + A.length) := by
          by_cases hg : P.length + A.length > mid
          · rw [if_pos hg] at hlo hhi
            exact .inl ⟨hg, by omega, hhi⟩
          · rw [if_neg hg] at hlo hhi
            exact .inr ⟨by omega, hlo, hhi⟩
        clear hlo hhi
        have hA1 : ∀ i, i < A.length → (P ++ (A ++ (B ++ Q))).getD (P.length + i) default = A.getD i default := fun i h => getA P A B Q i h
        have hB1 : ∀ i, i < B.length → (P ++ (A ++ (B ++ Q))).getD (P.length + A.length + i) default = B.getD i default := fun i h => getB P A B Q i h
        have hm : ∀ i j, i < A.length → j < B.length → (c (B.getD j default) (A.getD i default) = true ↔ lt (B.getD j default) (A.getD i default)) := fun i j h g => hc _ (getD_mem g) _ (getD_mem h)
        have hP : ∀ q, lo ≤ q → q < hi → (!c ((P ++ (A ++ (B ++ Q))).getD (mid + (P.length + A.length) - 1 - q) default) ((P ++ (A ++ (B ++ Q))).getD q default)) = !c (B.getD (mid - 1 - q) default) (A.getD (q - P.length) default) := fun q h1 h2 => by
          have g1 := hA1 (q - P.length) (by omega)
          have g2 := hB1 (mid - 1 - q) (by omega)
          rw [show P.length + (q - P.length) = q by omega] at g1
          rw [show P.length + A.length + (mid - 1 - q) = mid + (P.length + A.length) - 1 - q by omega] at g2
          rw [g1, g2]
        obtain ⟨s, hs⟩ : ∃ s, s = bs (fun q => !c ((P ++ (A ++ (B ++ Q))).getD (mid + (P.length + A.length) - 1 - q) default) ((P ++ (A ++ (B ++ Q))).getD q default)) (P.length + A.length + B.length - P.length) lo hi := ⟨_, rfl⟩
        have hb := bs_ok (fun q => !c ((P ++ (A ++ (B ++ Q))).getD (mid + (P.length + A.length) - 1 - q) default) ((P ++ (A ++ (B ++ Q))).getD q default)) (P.length + A.length + B.length - P.length) lo hi (by omega) (by omega) (by
          intro q d hq hd hr hp
          rw [hP d (by omega) hr, Bool.not_eq_true'] at hp
          rw [hP q hq (by omega), Bool.not_eq_true']
          cases hq2 : c (B.getD (mid - 1 - q) default) (A.getD (q - P.length) default) with
          | false => rfl
          | true =>
            exfalso
            rw [hm _ _ (by omega) (by omega)] at hq2
            have f1 : lt (B.getD (mid - 1 - d) default) (A.getD (q - P.length) default) := by
              rcases asc lt hB (i := mid - 1 - d) (j := mid - 1 - q) (by omega) (by omega) with e | e
              · rw [e]; exact hq2
              · exact hT e hq2
            have f2 : lt (B.getD (mid - 1 - d) default) (A.getD (d - P.length) default) := by
              rcases asc lt hA (i := q - P.length) (j := d - P.length) (by omega) (by omega) with e | e
              · rw [← e]; exact f1
              · exact hT f1 e
            rw [(hm _ _ (by omega) (by omega)).2 f2] at hp
            cases hp)
        rw [← hs] at hb ⊢
        clear hs
        obtain ⟨q1, q2, q3, q4⟩ := hb
        obtain ⟨t, ht⟩ : ∃ t, t = s - P.length := ⟨_, rfl⟩
        obtain ⟨u, hu⟩ : ∃ u, u = mid - s := ⟨_, rfl⟩
        have t1 : t ≤ A.length := by omega
        have u1 : u ≤ B.length := by omega
        have lA1 : (A.take t).length = t := by rw [List.length_take, Nat.min_eq_left t1]
        have lB1 : (B.take u).length = u := by rw [List.length_take, Nat.min_eq_left u1]
        have lA2 : (A.drop t).length = A.length - t := List.length_drop
        have lB2 : (B.drop u).length = B.length - u := List.length_drop
        have hh1 : ∀ x ∈ A.take t, ∀ y ∈ B.drop u, ¬lt y x := fun x hx y hy hl => by
          obtain ⟨i, hi1, rfl⟩ := mem_getD hx
          obtain ⟨j, hj1, rfl⟩ := mem_getD hy
          rw [lA1] at hi1
          rw [lB2] at hj1
          rw [getD_take hi1, getD_drop] at hl
          have g := q3 (s - 1) (by omega) (by omega)
          rw [hP (s - 1) (by omega) (by omega), Bool.not_eq_true', show mid - 1 - (s - 1) = u by omega, show s - 1 - P.length = t - 1 by omega] at g
          have f1 : lt (B.getD u default) (A.getD i default) := by
            rcases asc lt hB (i := u) (j := u + j) (by omega) (by omega) with e | e
            · rw [e]; exact hl
            · exact hT e hl
          have f2 : lt (B.getD u default) (A.getD (t - 1) default) := by
            rcases asc lt hA (i := i) (j := t - 1) (by omega) (by omega) with e | e
            · rw [← e]; exact f1
            · exact hT f1 e
          rw [(hm _ _ (by omega) (by omega)).2 f2] at g
          cases g
        have hh2 : ∀ y ∈ B.take u, ∀ x ∈ A.drop t, lt y x := fun y hy x hx => by
          obtain ⟨j, hj1, rfl⟩ := mem_getD hy
          obtain ⟨i, hi1, rfl⟩ := mem_getD hx
          rw [lB1] at hj1
          rw [lA2] at hi1
          rw [getD_take hj1, getD_drop]
          have g := q4 s (Nat.le_refl _) (by omega)
          rw [hP s (by omega) (by omega), Bool.not_eq_false', show mid - 1 - s = u - 1 by omega, show s - P.length = t by omega, hm _ _ (by omega) (by omega)] at g
          have f1 : lt (B.getD j default) (A.getD t default) := by
            rcases asc lt hB (i := j) (j := u - 1) (by omega) (by omega) with e | e
            · rw [e]; exact g
            · exact hT e g
          rcases asc lt hA (i := t) (j := t + i) (by omega) (by omega) with e | e
          · rw [← e]; exact f1
          · exact hT f1 e
        have hmerge : mrg lt A B = mrg lt (A.take t) (B.take u) ++ mrg lt (A.drop t) (B.drop u) := by
          have := mrg_halves lt (A.take t) (A.drop t) (B.take u) (B.drop u) hh1 hh2
          rwa [List.take_append_drop, List.take_append_drop] at this
        have hAB : P ++ (A ++ (B ++ Q)) = P ++ (A.take t ++ (A.drop t ++ (B.take u ++ (B.drop u ++ Q)))) := by
          rw [← List.append_assoc (A.take t), List.take_append_drop, ← List.append_assoc (B.take u), List.take_append_drop]
        have s1 : (if s < P.length + A.length ∧ P.length + A.length < mid + (P.length + A.length) - s then rot (P ++ (A ++ (B ++ Q))) (P.length + A.length) (P.length + A.length + B.length - P.length) (P.length + A.length - s) (mid - s) else P ++ (A ++ (B ++ Q))) = P ++ (A.take t ++ (B.take u ++ (A.drop t ++ (B.drop u ++ Q)))) := by
          by_cases hr : s < P.length + A.length ∧ P.length + A.length < mid + (P.length + A.length) - s
          · rw [if_pos hr, hAB]
            have h := rot_seg (P.length + A.length + B.length - P.length) (P ++ A.take t) (A.drop t) (B.take u) (B.drop u ++ Q) (by rw [lA2, lB1]; omega) (by rw [lA2]; omega) (by rw [lB1]; omega)
            rw [lA2, lB1, List.length_append, lA1, show P.length + t + (A.length - t) = P.length + A.length by omega, show A.length - t = P.length + A.length - s by omega, hu] at h
            rw [List.append_assoc, List.append_assoc] at h
            rw [hu]
            exact h
          · rw [if_neg hr, hAB]
            by_cases h3 : s < P.length + A.length
            · have : u = 0 := by omega
              rw [this, List.take_zero]
              rfl
            · have : A.drop t = [] := List.drop_eq_nil_of_le (by omega)
              rw [this]
              rfl
        rw [s1]
        have s2 : (if P.length < s ∧ s < mid then symM c k (P ++ (A.take t ++ (B.take u ++ (A.drop t ++ (B.drop u ++ Q))))) P.length s mid else P ++ (A.take t ++ (B.take u ++ (A.drop t ++ (B.drop u ++ Q))))) = P ++ (mrg lt (A.take t) (B.take u) ++ (A.drop t ++ (B.drop u ++ Q))) := by
          by_cases hr : P.length < s ∧ s < mid
          · rw [if_pos hr]
            have h := symM_seg c hT k P (A.take t) (B.take u) (A.drop t ++ (B.drop u ++ Q)) (by rw [lA1, lB1]; omega) (by rw [lA1]; omega) (by rw [lB1]; omega) (hA.sublist (List.take_sublist _ _)) (hB.sublist (List.take_sublist _ _)) (fun y hy x hx => hc y (List.mem_of_mem_take hy) x (List.mem_of_mem_take hx))
            rw [lA1, lB1, show P.length + t = s by omega, show s + u = mid by omega] at h
            exact h
          · rw [if_neg hr]
            by_cases h3 : P.length < s
            · have : u = 0 := by omega
              rw [this, List.take_zero, mrg_nil]
              rfl
            · have : t = 0 := by omega
              rw [this, List.take_zero, nil_mrg]
              rfl
        rw [s2, hmerge]
        by_cases hr : mid < mid + (P.length + A.length) - s ∧ mid + (P.length + A.length) - s < P.length + A.length + B.length
        · rw [if_pos hr]
          have lM : (P ++ mrg lt (A.take t) (B.take u)).length = mid := by
            rw [List.length_append, (mrg_perm lt _ _).length_eq, List.length_append, lA1, lB1]
            omega
          have h := symM_seg c hT k (P ++ mrg lt (A.take t) (B.take u)) (A.drop t) (B.drop u) Q (by rw [lA2, lB2]; omega) (by rw [lA2]; omega) (by rw [lB2]; omega) (hA.sublist (List.drop_sublist _ _)) (hB.sublist (List.drop_sublist _ _)) (fun y hy x hx => hc y (List.mem_of_mem_drop hy) x (List.mem_of_mem_drop hx))
          rw [lM, lA2, lB2, show mid + (A.length - t) = mid + (P.length + A.length) - s by omega, show mid + (P.length + A.length) - s + (B.length - u) = P.length + A.length + B.length by omega, List.append_assoc, List.append_assoc] at h
          rw [h, List.append_assoc]
        · rw [if_neg hr, List.append_assoc]
          by_cases h3 : mid < mid + (P.length + A.length) - s
          · have : B.drop u = [] := List.drop_eq_nil_of_le (by omega)
            rw [this, mrg_nil]
            rfl
          · have : A.drop t = [] := List.drop_eq_nil_of_le (by omega)
            rw [this, nil_mrg]
            rfl
end
end Go.Proofs.Ytpnejhelandclaa.S3
namespace Go.Proofs.Ytpnejhelandclaa.S4
open Go.Proofs.Ytpnejhelandclaa.S1 Go.Proofs.Ytpnejhelandclaa.S2 Go.Proofs.Ytpnejhelandclaa.S3
section
variable {α : Type} (lt : α → α → Prop) [DecidableRel lt]
def insL (X : List α) : List α := X.foldl (fun acc y => mrg lt acc [y]) []
theorem insL_snoc (X : List α) (y : α) : insL lt (X ++ [y]) = mrg lt (insL lt X) [y] := by
  unfold insL
  rw [List.foldl_append]
  rfl
theorem insL_perm : ∀ (n : Nat) (X : List α), X.length = n → (insL lt X).Perm X
  | 0, X, h => by rw [List.length_eq_zero_iff.1 h]; exact List.Perm.refl _
  | n + 1, X, h => by
    obtain ⟨X', y, rfl⟩ : ∃ X' y, X = X' ++ [y] := ⟨X.dropLast, X.getLast (by intro e; rw [e] at h; cases h), (List.dropLast_concat_getLast _).symm⟩
    rw [insL_snoc]
    exact (mrg_perm lt _ _).trans ((insL_perm n X' (by simpa using h)).append_right _)
theorem insL_pw (hT : ∀ {x y z : α}, lt x y → lt y z → lt x z) : ∀ (n : Nat) (X : List α), X.length = n → X.Pairwise (fun x y => lt y x ∨ lt x y) → (insL lt X).Pairwise lt
  | 0, X, h, _ => by rw [List.length_eq_zero_iff.1 h]; exact List.Pairwise.nil
  | n + 1, X, h, hp => by
    obtain ⟨X', y, rfl⟩ : ∃ X' y, X = X' ++ [y] := ⟨X.dropLast, X.getLast (by intro e; rw [e] at h; cases h), (List.dropLast_concat_getLast _).symm⟩
    have h' : X'.length = n := by simpa using h
    have hq := List.pairwise_append.1 hp
    rw [insL_snoc]
    refine mrg_pw lt hT _ _ (insL_pw hT n X' h' hq.1) (List.pairwise_singleton _ _) fun x hx b hb => ?_
    rw [List.mem_singleton.1 hb]
    exact hq.2.2 x ((insL_perm lt n X' h').mem_iff.1 hx) y (List.mem_cons_self ..)
end
section
variable {α : Type} [Inhabited α]
def insJ (c : α → α → Bool) (a : Nat) : Nat → List α → List α
  | 0, l => l
  | n + 1, l => if c (l.getD (a + n + 1) default) (l.getD (a + n) default) = true then insJ c a n (swap1 l (a + n + 1) (a + n)) else l
def insI (c : α → α → Bool) (a : Nat) : Nat → List α → List α
  | 0, l => l
  | r + 1, l => insJ c a (r + 1) (insI c a r l)
def insSort (c : α → α → Bool) (l : List α) (a b : Nat) : List α := insI c a (b - a - 1) l
def stb (c : α → α → Bool) (l : List α) (n : Nat) : List α :=
  if n < 20 then insSort c l 0 n
  else
    let l1 := insSort c l 0 20
    if n < 40 then (if 20 < n then symM c n (insSort c l1 20 n) 0 20 n else insSort c l1 20 n)
    else symM c 40 (insSort c (insSort c l1 20 40) 40 n) 0 20 40
variable (lt : α → α → Prop) [DecidableRel lt]
theorem insJ_seg (c : α → α → Bool) (hT : ∀ {x y z : α}, lt x y → lt y z → lt x z) : ∀ (n : Nat) (A P Q : List α) (y : α), A.length = n → A.Pairwise lt → (∀ x ∈ A, (c y x = true ↔ lt y x)) → insJ c P.length n (P ++ (A ++ y :: Q)) = P ++ (mrg lt A [y] ++ Q)
  | 0, A, P, Q, y, h, _, _ => by
    rw [List.length_eq_zero_iff.1 h, nil_mrg]
    rfl
  | n + 1, A, P, Q, y, h, hA, hc => by
    obtain ⟨A', x, rfl⟩ : ∃ A' x, A = A' ++ [x] := ⟨A.dropLast, A.getLast (by intro e; rw [e] at h; cases h), (List.dropLast_concat_getLast _).symm⟩
    have h' : A'.length = n := by simpa using h
    have e1 : P ++ ((A' ++ [x]) ++ y :: Q) = (P ++ A') ++ x :: ([] ++ y :: Q) := by simp
    have gx : (P ++ ((A' ++ [x]) ++ y :: Q)).getD (P.length + n) default = x := by
      rw [e1, ← h', ← List.length_append, List.getD_eq_getElem?_getD, List.getElem?_append_right (Nat.le_refl _), Nat.sub_self]
      rfl
    have gy : (P ++ ((A' ++ [x]) ++ y :: Q)).getD (P.length + n + 1) default = y := by
      rw [e1, ← h', ← List.length_append, List.getD_eq_getElem?_getD, List.getElem?_append_right (by omega), Nat.add_sub_cancel_left]
      rfl
    have hx : c y x = true ↔ lt y x := hc x (by simp)
    have hpw := List.pairwise_append.1 hA
    rw [insJ, gx, gy]
    by_cases hl : lt y x
    · rw [if_pos (hx.2 hl), swap1_comm _ _ _ (by omega), e1]
      have hs := swap1_seg (P ++ A') [] Q x y
      rw [List.length_append, h', List.length_nil, Nat.add_zero] at hs
      rw [hs]
      have ih := insJ_seg c hT n A' P ([x] ++ Q) y h' hpw.1 (fun z hz => hc z (List.mem_append_left _ hz))
      rw [show P ++ A' ++ y :: ([] ++ x :: Q) = P ++ (A' ++ y :: ([x] ++ Q)) by simp, ih]
      have hm := mrg_halves lt A' [x] [y] [] (fun _ _ b hb => by cases hb) (fun b hb a ha => by rw [List.mem_singleton.1 ha, List.mem_singleton.1 hb]; exact hl)
      rw [List.append_nil, mrg_nil] at hm
      rw [hm]
      simp
    · rw [if_neg fun g => hl (hx.1 g)]
      have hm := mrg_last lt y (A' ++ [x]) [] (fun z hz g => by
        rcases List.mem_append.1 hz with hz | hz
        · exact hl (hT g (hpw.2.2 z hz x (List.mem_cons_self ..)))
        · rw [List.mem_singleton.1 hz] at g
          exact hl g) (fun z hz => by cases hz)
      rw [List.append_nil] at hm
      rw [hm]
      simp
theorem insI_seg (c : α → α → Bool) (hT : ∀ {x y z : α}, lt x y → lt y z → lt x z) : ∀ (r : Nat) (X P Q : List α), X.length = r + 1 → X.Pairwise (fun x y => lt y x ∨ lt x y) → X.Pairwise (fun x y => (c y x = true ↔ lt y x)) → insI c P.length r (P ++ (X ++ Q)) = P ++ (insL lt X ++ Q)
  | 0, X, P, Q, h, _, _ => by
    obtain ⟨x, rfl⟩ : ∃ x, X = [x] := List.length_eq_one_iff.1 (by omega)
    simp [insI, insL, mrg]
  | r + 1, X, P, Q, h, hp, hc => by
    obtain ⟨X', y, rfl⟩ : ∃ X' y, X = X' ++ [y] := ⟨X.dropLast, X.getLast (by intro e; rw [e] at h; cases h), (List.dropLast_concat_getLast _).symm⟩
    have h' : X'.length = r + 1 := by simpa using h
    have hq := List.pairwise_append.1 hp
    have hd := List.pairwise_append.1 hc
    have ih := insI_seg c hT r X' P ([y] ++ Q) h' hq.1 hd.1
    have hpm := insL_perm lt (r + 1) X' h'
    rw [insI, show P ++ ((X' ++ [y]) ++ Q) = P ++ (X' ++ ([y] ++ Q)) by simp, ih]
    have hj := insJ_seg lt c hT (r + 1) (insL lt X') P Q y (by rw [hpm.length_eq, h']) (insL_pw lt hT (r + 1) X' h' hq.1) (fun x hx => hd.2.2 x (hpm.mem_iff.1 hx) y (List.mem_cons_self ..))
    rw [insL_snoc]
    exact hj
theorem insSort_seg (c : α → α → Bool) (hT : ∀ {x y z : α}, lt x y → lt y z → lt x z) (X P Q : List α) (hp : X.Pairwise (fun x y => lt y x ∨ lt x y)) (hc : X.Pairwise (fun x y => (c y x = true ↔ lt y x))) : insSort c (P ++ (X ++ Q)) P.length (P.length + X.length) = P ++ (insL lt X ++ Q) := by
  unfold insSort
  rw [show P.length + X.length - P.length - 1 = X.length - 1 by omega]
  cases X with
  | nil => rfl
  | cons x xs => exact insI_seg lt c hT _ (x :: xs) P Q (by simp) hp hc
theorem stb_ok (c : α → α → Bool) (hT : ∀ {x y z : α}, lt x y → lt y z → lt x z) (X : List α) (hn : X.length ≤ 40) (hp : X.Pairwise (fun x y => lt y x ∨ lt x y)) (hc : X.Pairwise (fun x y => (c y x = true ↔ lt y x))) :
    (stb c X X.length).Perm X ∧ (stb c X X.length).Pairwise lt := by
  have whole := insSort_seg lt c hT X [] [] hp hc
  simp only [List.nil_append, List.append_nil, List.length_nil, Nat.zero_add] at whole
  unfold stb
  by_cases h20 : X.length < 20
  · rw [if_pos h20, whole]
    exact ⟨insL_perm lt _ X rfl, insL_pw lt hT _ X rfl hp⟩
  · rw [if_neg h20]
    dsimp only
    obtain ⟨A, B, rfl, hA⟩ : ∃ A B, X = A ++ B ∧ A.length = 20 := ⟨X.take 20, X.drop 20, (List.take_append_drop _ _).symm, by rw [List.length_take]; omega⟩
    have hpp := List.pairwise_append.1 hp
    have hcc := List.pairwise_append.1 hc
    have sA := insSort_seg lt c hT A [] B hpp.1 hcc.1
    simp only [List.nil_append, List.length_nil, Nat.zero_add] at sA
    rw [hA] at sA
    have pA := insL_perm lt _ A rfl
    have lA : (insL lt A).length = 20 := by rw [pA.length_eq, hA]
    have sB := insSort_seg lt c hT B (insL lt A) [] hpp.2.1 hcc.2.1
    rw [List.append_nil, List.append_nil, lA] at sB
    have pB := insL_perm lt _ B rfl
    have hN : (A ++ B).length = 20 + B.length := by rw [List.length_append, hA]
    have wA := insL_pw lt hT _ A rfl hpp.1
    have wB := insL_pw lt hT _ B rfl hpp.2.1
    rw [hN] at hn h20 ⊢
    have merged : 0 < B.length → ∀ k, 20 + B.length ≤ k → (symM c k (insL lt A ++ insL lt B) 0 20 (20 + B.length)).Perm (A ++ B) ∧ (symM c k (insL lt A ++ insL lt B) 0 20 (20 + B.length)).Pairwise lt := fun h0 k hk => by
      have hm := symM_seg lt c hT k [] (insL lt A) (insL lt B) [] (by rw [lA, pB.length_eq]; exact hk) (by omega) (by rw [pB.length_eq]; exact h0) wA wB (fun y hy x hx => hcc.2.2 x (pA.mem_iff.1 hx) y (pB.mem_iff.1 hy))
      simp only [List.nil_append, List.append_nil, List.length_nil, Nat.zero_add] at hm
      rw [lA, pB.length_eq] at hm
      rw [hm]
      exact ⟨(mrg_perm lt _ _).trans (pA.append pB), mrg_pw lt hT _ _ wA wB fun x hx y hy => hpp.2.2 x (pA.mem_iff.1 hx) y (pB.mem_iff.1 hy)⟩
    rw [sA]
    by_cases h40 : 20 + B.length < 40
    · rw [if_pos h40, sB]
      by_cases h0 : 20 < 20 + B.length
      · rw [if_pos h0]
        exact merged (by omega) _ (Nat.le_refl _)
      · rw [if_neg h0]
        have : B = [] := List.length_eq_zero_iff.1 (by omega)
        rw [this]
        refine ⟨pA.append_right _, ?_⟩
        rw [show insL lt ([] : List α) = [] from rfl, List.append_nil]
        exact wA
    · rw [if_neg h40]
      have hB : B.length = 20 := by omega
      have e40 : insSort c (insL lt A ++ B) 20 40 = insL lt A ++ insL lt B := by
        rw [hB] at sB
        exact sB
      have e0 : ∀ l : List α, insSort c l 40 (20 + B.length) = l := fun l => by
        unfold insSort
        rw [hB]
        rfl
      rw [e40, e0]
      have := merged (by omega) 40 (by omega)
      rw [hB] at this
      exact this
end
end Go.Proofs.Ytpnejhelandclaa.S4
namespace Go.Proofs.Ytpnejhelandclaa.S5
open Go Go.RowKit Go.Proofs.Ytpnejhelandclaa Go.Proofs.YtpnejhelandclaaW.PrintWords Go.Proofs.Ytpnejhelandclaa.EV Go.Proofs.Ytpnejhelandclaa.S2 Go.Proofs.Ytpnejhelandclaa.S3 Go.Proofs.Ytpnejhelandclaa.S4
theorem rdd (l : List Int) (i : Nat) : rd l (i : Int) = l.getD i default := by unfold rd; rw [Int.toNat_natCast]; rfl
theorem wadd (a b : Nat) (h : a + b ≤ 1000000) : wrap64 ((a : Int) + (b : Int)) = ((a + b : Nat) : Int) := by unfold wrap64; omega
theorem wsub (a b : Nat) (h : b ≤ a) (h' : a ≤ 1000000) : wrap64 ((a : Int) - (b : Int)) = ((a - b : Nat) : Int) := by unfold wrap64; omega
theorem wone (a : Nat) (h : a ≤ 1000000) : wrap64 ((a : Int) + 1) = ((a + 1 : Nat) : Int) := by unfold wrap64; omega
theorem wpre (a : Nat) (h : a ≤ 1000000) : wrap64 (((a + 1 : Nat) : Int) - 1) = (a : Int) := by unfold wrap64; omega
theorem half (a b : Nat) (h : a + b ≤ 1000000) : wrap64 ((IntKind.u64.wrap (wrap64 ((a : Int) + (b : Int)))) / 2) = (((a + b) / 2 : Nat) : Int) := by
  rw [wadd a b h, L1.u64w_id _ (by omega) (by omega)]
  unfold wrap64
  omega
theorem swap_set (l : List Int) (i j : Nat) : (l.set (i : Int).toNat (rd l (j : Int))).set (j : Int).toNat (rd l (i : Int)) = swap1 l i j := by
  unfold swap1
  rw [rdd, rdd, Int.toNat_natCast, Int.toNat_natCast]
def In (p : Int → Prop) (n : Nat) (l : List Int) : Prop := l.length = n ∧ ∀ e ∈ l, p e
section
variable {p : Int → Prop} {n : Nat} {l : List Int}
theorem In.get (h : In p n l) {i : Nat} (hi : i < n) : p (l.getD i default) := h.2 _ (getD_mem (by rw [h.1]; exact hi))
theorem In.swap (h : In p n l) {i j : Nat} (hi : i < n) (hj : j < n) : In p n (swap1 l i j) := by
  unfold swap1
  refine ⟨by rw [List.length_set, List.length_set]; exact h.1, fun e he => ?_⟩
  rcases List.mem_or_eq_of_mem_set he with he | rfl
  · rcases List.mem_or_eq_of_mem_set he with he | rfl
    · exact h.2 e he
    · exact h.get hj
  · exact h.get hi
theorem In.swapR (h : In p n l) {a b : Nat} : ∀ (q : Nat), a + q ≤ n → b + q ≤ n → In p n (swapR l a b q)
  | 0, _, _ => h
  | q + 1, ha, hb => (In.swapR h q (by omega) (by omega)).swap (by omega) (by omega)
end
theorem swapR_ev {p : Int → Prop} {n : Nat} (l : List Int) (a b q : Nat) (z : Int) (h : In p n l) (ha : a + q ≤ n) (hb : b + q ≤ n) (hn : n ≤ 1000) : Ev (fun k => SB.slices_swapRangeCmpFunc_int.f k l a b q z) (swapR l a b q) := by
  unfold SB.slices_swapRangeCmpFunc_int.f
  have key : ∀ (d i : Nat), q - i = d → i ≤ q → Ev (fun k => SB.slices_swapRangeCmpFunc_int.l0 k (swapR l a b i) a b q (i : Int)) (swapR l a b q) := by
    intro d
    induction d with
    | zero =>
      intro i hd hi
      obtain rfl : i = q := by omega
      exact Ev_one fun k => by
        simp only [SB.slices_swapRangeCmpFunc_int.l0]
        rw [if_neg (by omega)]
    | succ d ih =>
      intro i hd hi
      refine Ev.step (f := fun k => SB.slices_swapRangeCmpFunc_int.l0 k (swapR l a b (i + 1)) a b q ((i + 1 : Nat) : Int)) (fun k => ?_) (ih (i + 1) (by omega) (by omega))
      have hlen := (h.swapR (a := a) (b := b) i (by omega) (by omega)).1
      simp only [SB.slices_swapRangeCmpFunc_int.l0]
      rw [if_pos (by omega), wadd b i (by omega), wadd a i (by omega), wone i (by omega), if_pos (by omega), if_pos (by omega), if_pos (by omega), if_pos (by omega), swap_set]
      rfl
  exact key q 0 (by omega) (by omega)
theorem rot_ev {p : Int → Prop} {n : Nat} (hn : n ≤ 1000) (z : Int) : ∀ (k : Nat) (l : List Int) (m i j : Nat), In p n l → i + j ≤ k → 0 < i → 0 < j → i ≤ m → m + j ≤ n → In p n (rot l m k i j) ∧ Ev (fun f => SB.slices_rotateCmpFunc_int.l0 f l m z i j) (rot l m k i j)
  | 0, l, m, i, j, h, hk, hi, hj, hm, hl => by omega
  | k + 1, l, m, i, j, h, hk, hi, hj, hm, hl => by
    by_cases e : i = j
    · subst e
      rw [rot, if_pos rfl]
      refine ⟨h.swapR _ (by omega) (by omega), ?_⟩
      refine Ev.step (f := fun f => (SB.slices_swapRangeCmpFunc_int.f f l ((m - i : Nat) : Int) m i z).bind fun t => some t) (fun f => ?_) (Ev_bind (swapR_ev l (m - i) m i z h (by omega) (by omega) hn) (Ev.now _))
      simp only [SB.slices_rotateCmpFunc_int.l0]
      rw [if_pos trivial, wsub m i (by omega) (by omega)]
    · rw [rot, if_neg e]
      by_cases g : i > j
      · rw [if_pos g]
        have hs := h.swapR (a := m - i) (b := m) j (by omega) (by omega)
        have ih := rot_ev hn z k _ m (i - j) j hs (by omega) (by omega) (by omega) (by omega) (by omega)
        refine ⟨ih.1, ?_⟩
        refine Ev.step (f := fun f => (SB.slices_swapRangeCmpFunc_int.f f l ((m - i : Nat) : Int) m j z).bind fun t => SB.slices_rotateCmpFunc_int.l0 f t m z ((i - j : Nat) : Int) j) (fun f => ?_) (Ev_bind (swapR_ev l (m - i) m j z h (by omega) (by omega) hn) ih.2)
        simp only [SB.slices_rotateCmpFunc_int.l0]
        rw [if_neg (by omega), if_pos (by omega), wsub m i (by omega) (by omega), wsub i j (by omega) (by omega)]
      · rw [if_neg g]
        have hs := h.swapR (a := m - i) (b := m + j - i) i (by omega) (by omega)
        have ih := rot_ev hn z k _ m i (j - i) hs (by omega) (by omega) (by omega) (by omega) (by omega)
        refine ⟨ih.1, ?_⟩
        refine Ev.step (f := fun f => (SB.slices_swapRangeCmpFunc_int.f f l ((m - i : Nat) : Int) ((m + j - i : Nat) : Int) i z).bind fun t => SB.slices_rotateCmpFunc_int.l0 f t m z i ((j - i : Nat) : Int)) (fun f => ?_) (Ev_bind (swapR_ev l (m - i) (m + j - i) i z h (by omega) (by omega) hn) ih.2)
        simp only [SB.slices_rotateCmpFunc_int.l0]
        rw [if_neg (by omega), if_neg (by omega), wsub m i (by omega) (by omega), wadd m j (by omega), wsub (m + j) i (by omega) (by omega), wsub j i (by omega) (by omega)]
def CmpOk (c : X1.Cmp) (cb : Int → Int → Bool) (p : Int → Prop) : Prop := ∀ x y, p x → p y → ∃ t, c x y = some t ∧ (t < 0 ↔ cb x y = true)
section
variable {c : X1.Cmp} {cb : Int → Int → Bool} {p : Int → Prop} {n : Nat}
theorem CmpOk.yes (hc : CmpOk c cb p) {x y : Int} (hx : p x) (hy : p y) (e : cb x y = true) {β : Type} (A B : Option β) : ((c x y).bind fun t => if t < 0 then A else B) = A := by
  obtain ⟨t, ht, hi⟩ := hc x y hx hy
  rw [ht, Option.bind_some, if_pos (hi.2 e)]
theorem CmpOk.no (hc : CmpOk c cb p) {x y : Int} (hx : p x) (hy : p y) (e : ¬ cb x y = true) {β : Type} (A B : Option β) : ((c x y).bind fun t => if t < 0 then A else B) = B := by
  obtain ⟨t, ht, hi⟩ := hc x y hx hy
  rw [ht, Option.bind_some, if_neg (fun h => e (hi.1 h))]
theorem In.insJ {a : Nat} : ∀ (d : Nat) {l : List Int}, In p n l → a + d < n → In p n (insJ cb a d l)
  | 0, l, h, _ => h
  | d + 1, l, h, hd => by
    rw [S4.insJ]
    split
    · exact In.insJ d (h.swap (by omega) (by omega)) (by omega)
    · exact h
theorem In.insI {a : Nat} {l : List Int} (h : In p n l) : ∀ (r : Nat), a + r < n → In p n (insI cb a r l)
  | 0, _ => h
  | r + 1, hr => In.insJ (r + 1) (In.insI h r (by omega)) hr
theorem insJ_ev (hc : CmpOk c cb p) (hn : n ≤ 1000) (a : Nat) (b i : Int) : ∀ (d j : Nat) (l R : List Int), j = a + d → In p n l → a + d < n → Ev (fun k => SB.slices_insertionSortCmpFunc_int.l0 k (insJ cb a d l) a b c (wrap64 (i + 1))) R → Ev (fun k => SB.slices_insertionSortCmpFunc_int.l1 k l a b c i (j : Int)) R
  | 0, j, l, R, e, h, hd, hr => Ev.step (fun k => by
      simp only [SB.slices_insertionSortCmpFunc_int.l1]
      rw [if_neg (by omega)]
      rfl) hr
  | d + 1, j, l, R, e, h, hd, hr => by
    obtain rfl : j = a + d + 1 := by omega
    rw [S4.insJ] at hr
    have hl := h.1
    by_cases g : cb (l.getD (a + d + 1) default) (l.getD (a + d) default) = true
    · rw [if_pos g] at hr
      refine Ev.step (f := fun k => SB.slices_insertionSortCmpFunc_int.l1 k (swap1 l (a + d + 1) (a + d)) a b c i ((a + d : Nat) : Int)) (fun k => ?_) (insJ_ev hc hn a b i d (a + d) _ R rfl (h.swap (by omega) (by omega)) (by omega) hr)
      simp only [SB.slices_insertionSortCmpFunc_int.l1]
      rw [if_pos (by omega), if_pos (by omega), if_pos (by omega), wpre (a + d) (by omega), if_pos (by omega), if_pos (by omega), swap_set, rdd, rdd, hc.yes (h.get (by omega)) (h.get (by omega)) g]
    · rw [if_neg g] at hr
      refine Ev.step (fun k => ?_) hr
      simp only [SB.slices_insertionSortCmpFunc_int.l1]
      rw [if_pos (by omega), if_pos (by omega), if_pos (by omega), wpre (a + d) (by omega), if_pos (by omega), if_pos (by omega), rdd, rdd, hc.no (h.get (by omega)) (h.get (by omega)) g]
theorem ins_ev (hc : CmpOk c cb p) (hn : n ≤ 1000) (l : List Int) (h : In p n l) (a b : Nat) (hab : a ≤ b) (hb : b ≤ n) : Ev (fun k => SB.slices_insertionSortCmpFunc_int.f k l a b c) (insSort cb l a b) := by
  unfold SB.slices_insertionSortCmpFunc_int.f insSort
  have key : ∀ (d r : Nat), b - (a + r + 1) = d → a + r + 1 ≤ b → Ev (fun k => SB.slices_insertionSortCmpFunc_int.l0 k (insI cb a r l) a b c ((a + r + 1 : Nat) : Int)) (insI cb a (b - a - 1) l) := by
    intro d
    induction d with
    | zero =>
      intro r hd hr
      have e : b - a - 1 = r := by omega
      rw [e]
      exact Ev_one fun k => by
        simp only [SB.slices_insertionSortCmpFunc_int.l0]
        rw [if_neg (by omega)]
    | succ d ih =>
      intro r hd hr
      have hi := h.insI (cb := cb) (a := a) r (by omega)
      refine Ev.step (f := fun k => SB.slices_insertionSortCmpFunc_int.l1 k (insI cb a r l) a b c ((a + r + 1 : Nat) : Int) ((a + r + 1 : Nat) : Int)) (fun k => ?_) (insJ_ev hc hn a b _ (r + 1) (a + r + 1) _ _ (by omega) hi (by omega) ?_)
      · simp only [SB.slices_insertionSortCmpFunc_int.l0]
        rw [if_pos (by omega)]
      · rw [wone (a + r + 1) (by omega)]
        exact ih (r + 1) (by omega) (by omega)
  by_cases g : a + 1 ≤ b
  · rw [wone a (by omega)]
    exact key _ 0 rfl (by omega)
  · have e : b - a - 1 = 0 := by omega
    rw [e, wone a (by omega)]
    exact Ev_one fun k => by
      simp only [SB.slices_insertionSortCmpFunc_int.l0]
      rw [if_neg (by omega)]
      rfl
theorem In.insSort {l : List Int} (h : In p n l) (a b : Nat) (hab : a < b ∨ b ≤ a ∧ a < n) (hb : b ≤ n) : In p n (insSort cb l a b) := by
  unfold S4.insSort
  exact h.insI _ (by omega)
theorem bs_range (P : Nat → Bool) : ∀ (k s r : Nat), s ≤ r → s ≤ bs P k s r ∧ bs P k s r ≤ r
  | 0, s, r, h => ⟨Nat.le_refl _, h⟩
  | k + 1, s, r, h => by
    rw [bs]
    split
    · split
      · have := bs_range P k ((s + r) / 2 + 1) r (by omega)
        omega
      · have := bs_range P k s ((s + r) / 2) (by omega)
        omega
    · omega
theorem In.up {l : List Int} (h : In p n l) : ∀ (d q : Nat), q + d < n → In p n (up l q d)
  | 0, _, _ => h
  | d + 1, q, hq => In.up (h.swap (i := q) (j := q + 1) (by omega) (by omega)) d (q + 1) (by omega)
theorem In.down {l : List Int} (h : In p n l) : ∀ (d q : Nat), q < n → d ≤ q → In p n (down l q d)
  | 0, _, _, _ => h
  | d + 1, q, hq, hd => In.down (h.swap (i := q) (j := q - 1) (by omega) (by omega)) d (q - 1) (by omega) (by omega)
theorem up_ev (hn : n ≤ 1000) (i : Nat) : ∀ (d q : Nat) (l : List Int), i = q + 1 + d → In p n l → i ≤ n → Ev (fun k => SB.slices_symMergeCmpFunc_int.l1 k l i q) (up l q d)
  | 0, q, l, e, h, hi => Ev_one fun k => by
      simp only [SB.slices_symMergeCmpFunc_int.l1]
      rw [e, wpre q (by omega), if_neg (by omega)]
      rfl
  | d + 1, q, l, e, h, hi => by
    have hl := h.1
    refine Ev.step (f := fun k => SB.slices_symMergeCmpFunc_int.l1 k (swap1 l q (q + 1)) i ((q + 1 : Nat) : Int)) (fun k => ?_) (up_ev hn i d (q + 1) _ (by omega) (h.swap (by omega) (by omega)) hi)
    obtain ⟨i', rfl⟩ : ∃ i', i = i' + 1 := ⟨i - 1, by omega⟩
    simp only [SB.slices_symMergeCmpFunc_int.l1]
    rw [wpre i' (by omega), if_pos (by omega), wone q (by omega), if_pos (by omega), if_pos (by omega), if_pos (by omega), if_pos (by omega), swap_set]
theorem down_ev (hn : n ≤ 1000) (i : Nat) : ∀ (d q : Nat) (l : List Int), q = i + d → In p n l → q < n → Ev (fun k => SB.slices_symMergeCmpFunc_int.l3 k l i q) (down l q d)
  | 0, q, l, e, h, hi => Ev_one fun k => by
      simp only [SB.slices_symMergeCmpFunc_int.l3]
      rw [if_neg (by omega)]
      rfl
  | d + 1, q, l, e, h, hi => by
    have hl := h.1
    obtain ⟨q', rfl⟩ : ∃ q', q = q' + 1 := ⟨q - 1, by omega⟩
    refine Ev.step (f := fun k => SB.slices_symMergeCmpFunc_int.l3 k (swap1 l (q' + 1) q') i (q' : Int)) (fun k => ?_) (down_ev hn i d q' _ (by omega) (h.swap (by omega) (by omega)) (by omega))
    simp only [SB.slices_symMergeCmpFunc_int.l3]
    rw [if_pos (by omega), wpre q' (by omega), if_pos (by omega), if_pos (by omega), if_pos (by omega), if_pos (by omega), swap_set]
theorem srch0 (hc : CmpOk c cb p) (hn : n ≤ 1000) (l R : List Int) (a : Nat) (h : In p n l) (ha : a < n) : ∀ (f s r : Nat), r - s ≤ f → s ≤ r → r ≤ n →
    Ev (fun k => SB.slices_symMergeCmpFunc_int.l1 k l ((bs (fun q => cb (l.getD q default) (l.getD a default)) f s r : Nat) : Int) a) R → Ev (fun k => SB.slices_symMergeCmpFunc_int.l0 k l a c s r) R
  | 0, s, r, hf, hs, hr, hR => Ev.step (fun k => by
      simp only [SB.slices_symMergeCmpFunc_int.l0]
      rw [if_neg (by omega)]
      rfl) hR
  | f + 1, s, r, hf, hs, hr, hR => by
    have hl := h.1
    rw [bs] at hR
    by_cases g : s < r
    · rw [if_pos g] at hR
      by_cases e : cb (l.getD ((s + r) / 2) default) (l.getD a default) = true
      · rw [if_pos e] at hR
        refine Ev.step (fun k => ?_) (srch0 hc hn l R a h ha f ((s + r) / 2 + 1) r (by omega) (by omega) hr hR)
        simp only [SB.slices_symMergeCmpFunc_int.l0]
        rw [if_pos (by omega), half s r (by omega), if_pos (by omega), if_pos (by omega), if_pos (by omega), if_pos (by omega), rdd, rdd, hc.yes (h.get (by omega)) (h.get ha) e, wone _ (by omega)]
      · rw [if_neg e] at hR
        refine Ev.step (fun k => ?_) (srch0 hc hn l R a h ha f s ((s + r) / 2) (by omega) (by omega) (by omega) hR)
        simp only [SB.slices_symMergeCmpFunc_int.l0]
        rw [if_pos (by omega), half s r (by omega), if_pos (by omega), if_pos (by omega), if_pos (by omega), if_pos (by omega), rdd, rdd, hc.no (h.get (by omega)) (h.get ha) e]
    · rw [if_neg g] at hR
      refine Ev.step (fun k => ?_) hR
      simp only [SB.slices_symMergeCmpFunc_int.l0]
      rw [if_neg (by omega)]
theorem srch2 (hc : CmpOk c cb p) (hn : n ≤ 1000) (l R : List Int) (m : Nat) (h : In p n l) (hm : m < n) : ∀ (f s r : Nat), r - s ≤ f → s ≤ r → r ≤ n →
    Ev (fun k => SB.slices_symMergeCmpFunc_int.l3 k l ((bs (fun q => !cb (l.getD m default) (l.getD q default)) f s r : Nat) : Int) m) R → Ev (fun k => SB.slices_symMergeCmpFunc_int.l2 k l m c s r) R
  | 0, s, r, hf, hs, hr, hR => Ev.step (fun k => by
      simp only [SB.slices_symMergeCmpFunc_int.l2]
      rw [if_neg (by omega)]
      rfl) hR
  | f + 1, s, r, hf, hs, hr, hR => by
    have hl := h.1
    rw [bs] at hR
    by_cases g : s < r
    · rw [if_pos g] at hR
      by_cases e : cb (l.getD m default) (l.getD ((s + r) / 2) default) = true
      · rw [if_neg (by rw [e]; decide)] at hR
        refine Ev.step (fun k => ?_) (srch2 hc hn l R m h hm f s ((s + r) / 2) (by omega) (by omega) (by omega) hR)
        simp only [SB.slices_symMergeCmpFunc_int.l2]
        rw [if_pos (by omega), half s r (by omega), if_pos (by omega), if_pos (by omega), if_pos (by omega), if_pos (by omega), rdd, rdd, hc.yes (h.get hm) (h.get (by omega)) e]
      · rw [if_pos (by rw [Bool.eq_false_iff.2 e]; decide)] at hR
        refine Ev.step (fun k => ?_) (srch2 hc hn l R m h hm f ((s + r) / 2 + 1) r (by omega) (by omega) hr hR)
        simp only [SB.slices_symMergeCmpFunc_int.l2]
        rw [if_pos (by omega), half s r (by omega), if_pos (by omega), if_pos (by omega), if_pos (by omega), if_pos (by omega), rdd, rdd, hc.no (h.get hm) (h.get (by omega)) e, wone _ (by omega)]
    · rw [if_neg g] at hR
      refine Ev.step (fun k => ?_) hR
      simp only [SB.slices_symMergeCmpFunc_int.l2]
      rw [if_neg (by omega)]
theorem srch4 (hc : CmpOk c cb p) (hn : n ≤ 1000) (l R : List Int) (a m b mid N P : Nat) (h : In p n l) (hP : P ≤ 2000) : ∀ (f s r : Nat), r - s ≤ f → s ≤ r → r ≤ n → (∀ q, s ≤ q → q < r → q ≤ P ∧ P - q < n) →
    (∀ t, t = bs (fun q => !cb (l.getD (P - q) default) (l.getD q default)) f s r → Ev (fun k => if (t : Int) < (m : Int) then (SB.slices_symMergeCmpFunc_int.j6 k l a m b c mid t (wrap64 ((N : Int) - (t : Int))) (decide ((m : Int) < (wrap64 ((N : Int) - (t : Int)))))) else (SB.slices_symMergeCmpFunc_int.j6 k l a m b c mid t (wrap64 ((N : Int) - (t : Int))) false)) R) → Ev (fun k => SB.slices_symMergeCmpFunc_int.l4 k l a m b c mid N s r P) R
  | 0, s, r, hf, hs, hr, hq, hR => Ev.step (fun k => by
      simp only [SB.slices_symMergeCmpFunc_int.l4]
      rw [if_neg (by omega)]) (hR s rfl)
  | f + 1, s, r, hf, hs, hr, hq, hR => by
    have hl := h.1
    rw [bs] at hR
    by_cases g : s < r
    · rw [if_pos g] at hR
      have hh := hq ((s + r) / 2) (by omega) (by omega)
      by_cases e : cb (l.getD (P - (s + r) / 2) default) (l.getD ((s + r) / 2) default) = true
      · rw [if_neg (by rw [e]; decide)] at hR
        refine Ev.step (fun k => ?_) (srch4 hc hn l R a m b mid N P h hP f s ((s + r) / 2) (by omega) (by omega) (by omega) (fun q h1 h2 => hq q h1 (by omega)) hR)
        simp only [SB.slices_symMergeCmpFunc_int.l4]
        rw [if_pos (by omega), half s r (by omega), wsub P _ hh.1 (by omega), if_pos (by omega), if_pos (by omega), if_pos (by omega), if_pos (by omega), rdd, rdd, hc.yes (h.get hh.2) (h.get (by omega)) e]
      · rw [if_pos (by rw [Bool.eq_false_iff.2 e]; decide)] at hR
        refine Ev.step (fun k => ?_) (srch4 hc hn l R a m b mid N P h hP f ((s + r) / 2 + 1) r (by omega) (by omega) hr (fun q h1 h2 => hq q (by omega) h2) hR)
        simp only [SB.slices_symMergeCmpFunc_int.l4]
        rw [if_pos (by omega), half s r (by omega), wsub P _ hh.1 (by omega), if_pos (by omega), if_pos (by omega), if_pos (by omega), if_pos (by omega), rdd, rdd, hc.no (h.get hh.2) (h.get (by omega)) e, wone _ (by omega)]
    · rw [if_neg g] at hR
      refine Ev.step (fun k => ?_) (hR s rfl)
      simp only [SB.slices_symMergeCmpFunc_int.l4]
      rw [if_neg (by omega)]
end
end Go.Proofs.Ytpnejhelandclaa.S5
namespace Go.Proofs.Ytpnejhelandclaa.S6
open Go Go.RowKit Go.Proofs.Ytpnejhelandclaa Go.Proofs.YtpnejhelandclaaW.PrintWords Go.Proofs.Ytpnejhelandclaa.EV Go.Proofs.Ytpnejhelandclaa.S2 Go.Proofs.Ytpnejhelandclaa.S3 Go.Proofs.Ytpnejhelandclaa.S4 Go.Proofs.Ytpnejhelandclaa.S5
section
variable {c : X1.Cmp} {cb : Int → Int → Bool} {p : Int → Prop} {n : Nat}
def last2 (cb : Int → Int → Bool) (K : Nat) (l : List Int) (a s mid e b : Nat) : List Int :=
  let l2 := if a < s ∧ s < mid then symM cb K l a s mid else l
  if mid < e ∧ e < b then symM cb K l2 mid e b else l2
theorem j8_ev (K : Nat) (ih : ∀ (l : List Int) (a m b : Nat), In p n l → b - a ≤ K → a < m → m < b → b ≤ n → In p n (symM cb K l a m b) ∧ Ev (fun k => SB.slices_symMergeCmpFunc_int.f k l a m b c) (symM cb K l a m b))
    (l : List Int) (h : In p n l) (a s mid e b : Nat) (h1 : mid - a ≤ K) (h2 : b - mid ≤ K) (h3 : b ≤ n) (h4 : mid ≤ n) :
    In p n (last2 cb K l a s mid e b) ∧ Ev (fun k => SB.slices_symMergeCmpFunc_int.j7 k l a b c mid s e) (last2 cb K l a s mid e b) := by
  have tail : ∀ l2 : List Int, In p n l2 → In p n (if mid < e ∧ e < b then symM cb K l2 mid e b else l2) ∧
      Ev (fun k => if (mid : Int) < (e : Int) then (if (e : Int) < (b : Int) then ((SB.slices_symMergeCmpFunc_int.f k l2 mid e b c).bind fun t => some t) else some l2) else some l2) (if mid < e ∧ e < b then symM cb K l2 mid e b else l2) := by
    intro l2 hl2
    by_cases g : mid < e
    · by_cases g2 : e < b
      · rw [if_pos ⟨g, g2⟩]
        have := ih l2 mid e b hl2 h2 g g2 h3
        exact ⟨this.1, Ev.congr (fun k => by rw [if_pos (by omega), if_pos (by omega)]) (Ev_bind this.2 (Ev.now _))⟩
      · rw [if_neg (fun x => g2 x.2)]
        exact ⟨hl2, Ev_all_k fun k => by rw [if_pos (by omega), if_neg (by omega)]⟩
    · rw [if_neg (fun x => g x.1)]
      exact ⟨hl2, Ev_all_k fun k => by rw [if_neg (by omega)]⟩
  unfold last2
  dsimp only
  by_cases g : a < s ∧ s < mid
  · rw [if_pos g]
    have h5 := ih l a s mid h h1 g.1 g.2 h4
    have t := tail _ h5.1
    refine ⟨t.1, ?_⟩
    refine Ev.step (f := fun k => SB.slices_symMergeCmpFunc_int.j8 k l a b c mid s e true) (fun k => ?_) (Ev.step (f := fun k => (SB.slices_symMergeCmpFunc_int.f k l a s mid c).bind fun t234 => (if (mid : Int) < (e : Int) then (if (e : Int) < (b : Int) then ((SB.slices_symMergeCmpFunc_int.f k t234 mid e b c).bind fun t => some t) else some t234) else some t234)) (fun k => ?_) (Ev_bind h5.2 t.2))
    · simp only [SB.slices_symMergeCmpFunc_int.j7]
      rw [if_pos (by omega), decide_eq_true (by omega : (s : Int) < (mid : Int))]
    · simp only [SB.slices_symMergeCmpFunc_int.j8]
      rw [if_pos trivial]
  · rw [if_neg g]
    have t := tail _ h
    refine ⟨t.1, ?_⟩
    refine Ev.step (f := fun k => SB.slices_symMergeCmpFunc_int.j8 k l a b c mid s e false) (fun k => ?_) (Ev.step (f := fun k => (if (mid : Int) < (e : Int) then (if (e : Int) < (b : Int) then ((SB.slices_symMergeCmpFunc_int.f k l mid e b c).bind fun t => some t) else some l) else some l)) (fun k => ?_) t.2)
    · simp only [SB.slices_symMergeCmpFunc_int.j7]
      by_cases q : a < s
      · rw [if_pos (by omega), decide_eq_false (by omega : ¬ (s : Int) < (mid : Int))]
      · rw [if_neg (by omega)]
    · simp only [SB.slices_symMergeCmpFunc_int.j8]
      rw [if_neg (by decide)]
theorem symM_ev (hc : CmpOk c cb p) (hn : n ≤ 1000) : ∀ (K : Nat) (l : List Int) (a m b : Nat), In p n l → b - a ≤ K → a < m → m < b → b ≤ n → In p n (symM cb K l a m b) ∧ Ev (fun k => SB.slices_symMergeCmpFunc_int.f k l a m b c) (symM cb K l a m b)
  | 0, l, a, m, b, h, hk, h1, h2, h3 => by omega
  | K + 1, l, a, m, b, h, hk, h1, h2, h3 => by
    have hl := h.1
    rw [symM]
    by_cases e1 : m - a = 1
    · rw [if_pos e1]
      have hr := bs_range (fun q => cb (l.getD q default) (l.getD a default)) (b - m) m b (by omega)
      refine ⟨h.up _ _ (by omega), ?_⟩
      refine Ev.step (f := fun k => SB.slices_symMergeCmpFunc_int.l0 k l a c m b) (fun k => ?_) (srch0 hc hn l _ a h (by omega) (b - m) m b (by omega) (by omega) h3 (up_ev hn _ _ a l (by omega) h (by omega)))
      simp only [SB.slices_symMergeCmpFunc_int.f]
      rw [if_pos (by rw [wsub m a (by omega) (by omega)]; omega)]
    · rw [if_neg e1]
      by_cases e2 : b - m = 1
      · rw [if_pos e2]
        have hr := bs_range (fun q => !cb (l.getD m default) (l.getD q default)) (m - a) a m (by omega)
        refine ⟨h.down _ _ (by omega) (by omega), ?_⟩
        refine Ev.step (f := fun k => SB.slices_symMergeCmpFunc_int.l2 k l m c a m) (fun k => ?_) (srch2 hc hn l _ m h (by omega) (m - a) a m (by omega) (by omega) (by omega) (down_ev hn _ _ m l (by omega) h (by omega)))
        simp only [SB.slices_symMergeCmpFunc_int.f]
        rw [if_neg (by rw [wsub m a (by omega) (by omega)]; omega), if_pos (by rw [wsub b m (by omega) (by omega)]; omega)]
      · rw [if_neg e2]
        dsimp only
        obtain ⟨mid, hmid⟩ : ∃ mid, mid = (a + b) / 2 := ⟨_, rfl⟩
        rw [← hmid]
        obtain ⟨s0, hs0⟩ : ∃ s0, s0 = (if m > mid then mid + m - b else a) := ⟨_, rfl⟩
        obtain ⟨r0, hr0⟩ : ∃ r0, r0 = (if m > mid then mid else m) := ⟨_, rfl⟩
        rw [← hs0, ← hr0]
        have b0 : s0 ≤ r0 ∧ r0 ≤ m ∧ r0 ≤ mid ∧ a ≤ s0 ∧ mid + m - s0 ≤ b ∧ r0 - s0 ≤ b - a ∧ (∀ q, s0 ≤ q → q < r0 → q ≤ mid + m - 1 ∧ mid + m - 1 - q < n) := by
          by_cases g : m > mid
          · rw [if_pos g] at hs0 hr0
            exact ⟨by omega, by omega, by omega, by omega, by omega, by omega, fun q q1 q2 => by omega⟩
          · rw [if_neg g] at hs0 hr0
            exact ⟨by omega, by omega, by omega, by omega, by omega, by omega, fun q q1 q2 => by omega⟩
        obtain ⟨b1, b2, b3, b4, b5, b6, b7⟩ := b0
        have hr := bs_range (fun q => !cb (l.getD (mid + m - 1 - q) default) (l.getD q default)) (b - a) s0 r0 b1
        obtain ⟨s, hs⟩ : ∃ s, s = bs (fun q => !cb (l.getD (mid + m - 1 - q) default) (l.getD q default)) (b - a) s0 r0 := ⟨_, rfl⟩
        rw [← hs] at hr ⊢
        have ih := fun (l : List Int) (a m b : Nat) => symM_ev hc hn K l a m b
        -- the rotation
        have rotp : In p n (if s < m ∧ m < mid + m - s then rot l m (b - a) (m - s) (mid - s) else l) ∧ ∀ R, Ev (fun k => SB.slices_symMergeCmpFunc_int.j7 k (if s < m ∧ m < mid + m - s then rot l m (b - a) (m - s) (mid - s) else l) a b c mid s ((mid + m - s : Nat) : Int)) R →
            Ev (fun k => if (s : Int) < (m : Int) then (SB.slices_symMergeCmpFunc_int.j6 k l a m b c mid s (wrap64 (((mid + m : Nat) : Int) - (s : Int))) (decide ((m : Int) < (wrap64 (((mid + m : Nat) : Int) - (s : Int)))))) else (SB.slices_symMergeCmpFunc_int.j6 k l a m b c mid s (wrap64 (((mid + m : Nat) : Int) - (s : Int))) false)) R := by
          rw [wsub (mid + m) s (by omega) (by omega)]
          by_cases g : s < m ∧ m < mid + m - s
          · rw [if_pos g]
            have hrot := rot_ev hn 0 (b - a) l m (m - s) (mid - s) h (by omega) (by omega) (by omega) (by omega) (by omega)
            refine ⟨hrot.1, fun R hR => ?_⟩
            refine Ev.congr (f := fun k => SB.slices_symMergeCmpFunc_int.j6 k l a m b c mid s ((mid + m - s : Nat) : Int) true) (fun k => ?_) (Ev.step (f := fun k => (SB.slices_rotateCmpFunc_int.f k l s m ((mid + m - s : Nat) : Int) 0).bind fun t233 => SB.slices_symMergeCmpFunc_int.j7 k t233 a b c mid s ((mid + m - s : Nat) : Int)) (fun k => ?_) (Ev_bind ?_ hR))
            · rw [if_pos (by omega), decide_eq_true (by omega : (m : Int) < ((mid + m - s : Nat) : Int))]
            · simp only [SB.slices_symMergeCmpFunc_int.j6]
              rw [if_pos trivial]
            · unfold SB.slices_rotateCmpFunc_int.f
              rw [wsub m s (by omega) (by omega), wsub (mid + m - s) m (by omega) (by omega), show mid + m - s - m = mid - s by omega]
              exact hrot.2
          · rw [if_neg g]
            refine ⟨h, fun R hR => ?_⟩
            refine Ev.congr (f := fun k => SB.slices_symMergeCmpFunc_int.j6 k l a m b c mid s ((mid + m - s : Nat) : Int) false) (fun k => ?_) (Ev.step (fun k => ?_) hR)
            · by_cases q : s < m
              · rw [if_pos (by omega), decide_eq_false (by omega : ¬ (m : Int) < ((mid + m - s : Nat) : Int))]
              · rw [if_neg (by omega)]
            · simp only [SB.slices_symMergeCmpFunc_int.j6]
              rw [if_neg (by decide)]
        have fin := j8_ev (c := c) K ih _ rotp.1 a s mid (mid + m - s) b (by omega) (by omega) h3 (by omega)
        refine ⟨fin.1, ?_⟩
        refine Ev.step (f := fun k => SB.slices_symMergeCmpFunc_int.j4 k l a m b c mid ((mid + m : Nat) : Int) s0 r0) (fun k => ?_) (Ev.step (f := fun k => SB.slices_symMergeCmpFunc_int.l4 k l a m b c mid ((mid + m : Nat) : Int) s0 r0 ((mid + m - 1 : Nat) : Int)) (fun k => ?_) (srch4 hc hn l _ a m b mid (mid + m) (mid + m - 1) h (by omega) (b - a) s0 r0 b6 b1 (by omega) b7 (fun t ht => ?_)))
        · simp only [SB.slices_symMergeCmpFunc_int.f]
          rw [if_neg (by rw [wsub m a (by omega) (by omega)]; omega), if_neg (by rw [wsub b m (by omega) (by omega)]; omega), half a b (by omega), ← hmid, wadd mid m (by omega)]
          by_cases g : m > mid
          · rw [if_pos (by omega), wsub (mid + m) b (by omega) (by omega), hs0, hr0, if_pos g, if_pos g]
          · rw [if_neg (by omega), hs0, hr0, if_neg g, if_neg g]
        · simp only [SB.slices_symMergeCmpFunc_int.j4]
          have : wrap64 (((mid + m : Nat) : Int) - 1) = ((mid + m - 1 : Nat) : Int) := by unfold wrap64; omega
          rw [this]
        · obtain rfl : t = s := by rw [ht, hs]
          exact rotp.2 _ fin.2
theorem stb_ev (hc : CmpOk c cb p) (hn : n ≤ 40) (l : List Int) (h : In p n l) : Ev (fun k => SB.slices_stableCmpFunc_int.f k l (n : Int) c) (stb cb l n) := by
  have hn' : n ≤ 1000 := by omega
  unfold SB.slices_stableCmpFunc_int.f stb
  have e20 : wrap64 (20 + 20) = ((40 : Nat) : Int) := by unfold wrap64; omega
  have e40 : wrap64 (((40 : Nat) : Int) + 20) = ((60 : Nat) : Int) := by unfold wrap64; omega
  have e2 : wrap64 (2 * 20) = ((40 : Nat) : Int) := by unfold wrap64; omega
  have e3 : wrap64 (20 * 2) = ((40 : Nat) : Int) := by unfold wrap64; omega
  have e80 : wrap64 (((40 : Nat) : Int) + ((40 : Nat) : Int)) = ((80 : Nat) : Int) := by unfold wrap64; omega
  have e5 : wrap64 ((0 : Int) + 20) = ((20 : Nat) : Int) := by unfold wrap64; omega
  -- behind the blocks
  have done40 : ∀ l : List Int, Ev (fun k => SB.slices_stableCmpFunc_int.l1 k l (n : Int) c ((40 : Nat) : Int)) l := fun l => Ev_one fun k => by
    simp only [SB.slices_stableCmpFunc_int.l1]
    rw [if_neg (by omega)]
  by_cases h20 : n < 20
  · rw [if_pos h20]
    refine Ev.step (f := fun k => (SB.slices_insertionSortCmpFunc_int.f k l 0 n c).bind fun t => SB.slices_stableCmpFunc_int.l1 k t n c 20) (fun k => ?_) (Ev_bind (ins_ev hc hn' l h 0 n (by omega) (by omega)) (Ev_one fun k => ?_))
    · simp only [SB.slices_stableCmpFunc_int.l0]
      rw [if_neg (by omega)]
    · simp only [SB.slices_stableCmpFunc_int.l1]
      rw [if_neg (by omega)]
  · rw [if_neg h20]
    dsimp only
    have s1 := ins_ev hc hn' l h 0 20 (by omega) (by omega)
    have i1 := h.insSort (cb := cb) 0 20 (by omega) (by omega)
    refine Ev.step (f := fun k => (SB.slices_insertionSortCmpFunc_int.f k l 0 ((20 : Nat) : Int) c).bind fun t => SB.slices_stableCmpFunc_int.l0 k t n c 20 20 ((40 : Nat) : Int)) (fun k => ?_) (Ev_bind s1 ?_)
    · simp only [SB.slices_stableCmpFunc_int.l0]
      rw [if_pos (by omega), e20]
      rfl
    · by_cases h40 : n < 40
      · rw [if_pos h40]
        have s2 := ins_ev hc hn' _ i1 20 n (by omega) (by omega)
        refine Ev.step (f := fun k => (SB.slices_insertionSortCmpFunc_int.f k (insSort cb l 0 20) ((20 : Nat) : Int) n c).bind fun t => SB.slices_stableCmpFunc_int.l1 k t n c 20) (fun k => ?_) (Ev_bind s2 ?_)
        · simp only [SB.slices_stableCmpFunc_int.l0]
          rw [if_neg (by omega)]
          rfl
        · by_cases g : 20 < n
          · rw [if_pos g]
            have i2 := i1.insSort (cb := cb) 20 n (by omega) (by omega)
            have s3 := (symM_ev hc hn' n _ 0 20 n i2 (by omega) (by omega) (by omega) (by omega)).2
            refine Ev.step (f := fun k => SB.slices_stableCmpFunc_int.l2 k (insSort cb (insSort cb l 0 20) 20 n) n c 20 0 ((40 : Nat) : Int)) (fun k => ?_) (Ev.step (f := fun k => (SB.slices_symMergeCmpFunc_int.f k (insSort cb (insSort cb l 0 20) 20 n) ((0 : Nat) : Int) ((20 : Nat) : Int) n c).bind fun t => SB.slices_stableCmpFunc_int.l1 k t n c ((40 : Nat) : Int)) (fun k => ?_) (Ev_bind s3 (done40 _)))
            · simp only [SB.slices_stableCmpFunc_int.l1]
              rw [if_pos (by omega), e2]
            · simp only [SB.slices_stableCmpFunc_int.l2]
              rw [if_neg (by omega), e5, if_pos (by omega), e3]
              rfl
          · rw [if_neg g]
            exact Ev_one fun k => by
              simp only [SB.slices_stableCmpFunc_int.l1]
              rw [if_neg (by omega)]
      · rw [if_neg h40]
        obtain rfl : n = 40 := by omega
        have s2 := ins_ev hc hn' _ i1 20 40 (by omega) (by omega)
        have i2 := i1.insSort (cb := cb) 20 40 (by omega) (by omega)
        have s3 := ins_ev hc hn' _ i2 40 40 (by omega) (by omega)
        have i3 : In p 40 (insSort cb (insSort cb (insSort cb l 0 20) 20 40) 40 40) := i2
        have s4 := (symM_ev hc hn' 40 _ 0 20 40 i3 (by omega) (by omega) (by omega) (by omega)).2
        refine Ev.step (f := fun k => (SB.slices_insertionSortCmpFunc_int.f k (insSort cb l 0 20) ((20 : Nat) : Int) ((40 : Nat) : Int) c).bind fun t => SB.slices_stableCmpFunc_int.l0 k t ((40 : Nat) : Int) c 20 ((40 : Nat) : Int) ((60 : Nat) : Int)) (fun k => ?_) (Ev_bind s2 ?_)
        · simp only [SB.slices_stableCmpFunc_int.l0]
          rw [if_pos (by omega), e40]
          rfl
        · refine Ev.step (f := fun k => (SB.slices_insertionSortCmpFunc_int.f k (insSort cb (insSort cb l 0 20) 20 40) ((40 : Nat) : Int) ((40 : Nat) : Int) c).bind fun t => SB.slices_stableCmpFunc_int.l1 k t ((40 : Nat) : Int) c 20) (fun k => ?_) (Ev_bind s3 ?_)
          · simp only [SB.slices_stableCmpFunc_int.l0]
            rw [if_neg (by omega)]
          · refine Ev.step (f := fun k => SB.slices_stableCmpFunc_int.l2 k (insSort cb (insSort cb (insSort cb l 0 20) 20 40) 40 40) ((40 : Nat) : Int) c 20 0 ((40 : Nat) : Int)) (fun k => ?_) (Ev.step (f := fun k => (SB.slices_symMergeCmpFunc_int.f k (insSort cb (insSort cb (insSort cb l 0 20) 20 40) 40 40) ((0 : Nat) : Int) ((20 : Nat) : Int) ((40 : Nat) : Int) c).bind fun t => SB.slices_stableCmpFunc_int.l2 k t ((40 : Nat) : Int) c 20 ((40 : Nat) : Int) ((80 : Nat) : Int)) (fun k => ?_) (Ev_bind s4 (Ev.step (fun k => ?_) (done40 _))))
            · simp only [SB.slices_stableCmpFunc_int.l1]
              rw [if_pos (by omega), e2]
            · simp only [SB.slices_stableCmpFunc_int.l2]
              rw [if_pos (by omega), e5, e2, e80]
              rfl
            · simp only [SB.slices_stableCmpFunc_int.l2]
              rw [if_neg (by omega), e40, if_neg (by omega), e3]
end
end Go.Proofs.Ytpnejhelandclaa.S6
namespace Go.Proofs.Ytpnejhelandclaa.S7
open Go Go.RowKit Go.Proofs.YtpnejhelandclaaW.PrintWords Go.Proofs.Ytpnejhelandclaa.EV Go.Proofs.Ytpnejhelandclaa.S4
def idx (n : Nat) : List Int := (List.range n).map fun i : Nat => (i : Int)
theorem idx_succ (n : Nat) : idx (n + 1) = idx n ++ [(n : Int)] := by unfold idx; rw [List.range_succ, List.map_append]; rfl
theorem idx_length (n : Nat) : (idx n).length = n := by unfold idx; rw [List.length_map, List.length_range]
theorem mem_idx {n : Nat} {x : Int} : x ∈ idx n ↔ 0 ≤ x ∧ x < n := by
  unfold idx
  rw [List.mem_map]
  constructor
  · rintro ⟨a, ha, rfl⟩
    rw [List.mem_range] at ha
    omega
  · intro h
    exact ⟨x.toNat, by rw [List.mem_range]; omega, by omega⟩
theorem idx_asc (n : Nat) : (idx n).Pairwise (fun x y => x < y) := by
  unfold idx
  rw [List.pairwise_map]
  exact List.Pairwise.imp (fun h => by omega) List.pairwise_lt_range
section
variable (f : Int → Int)
def lt (a b : Int) : Prop := f b < f a ∨ (f a = f b ∧ a < b)
instance : DecidableRel (lt f) := fun a b => by unfold lt; exact inferInstance
def cb (a b : Int) : Bool := decide (f b < f a)
theorem lt_trans {x y z : Int} (h : lt f x y) (h' : lt f y z) : lt f x z := by unfold lt at *; omega
theorem lt_total {x y : Int} (h : x < y) : lt f y x ∨ lt f x y := by unfold lt; omega
theorem lt_not {x y : Int} (h : lt f x y) (h' : lt f y x) : False := by unfold lt at *; omega
def ord (n : Nat) : List Int := stb (cb f) (idx n) n
theorem ord_ok {n : Nat} (hn : n ≤ 40) : (ord f n).Perm (idx n) ∧ (ord f n).Pairwise (lt f) := by
  have h := stb_ok (lt f) (cb f) (fun a b => lt_trans f a b) (idx n) (by rw [idx_length]; exact hn)
    ((idx_asc n).imp fun h => lt_total f h)
    ((idx_asc n).imp fun {a b} h => by
      unfold cb lt
      rw [decide_eq_true_iff]
      omega)
  rw [idx_length] at h
  exact h
theorem ord_unique {n : Nat} (hn : n ≤ 40) {l : List Int} (hp : l.Perm (idx n)) (hl : l.Pairwise (lt f)) : l = ord f n := by
  have h := ord_ok f hn
  have key : ∀ (a b : List Int), a.Perm b → a.Pairwise (lt f) → b.Pairwise (lt f) → a = b := by
    intro a
    induction a with
    | nil => intro b hp _ _; exact (List.nil_perm.1 hp).symm
    | cons x a ih =>
      intro b hp ha hb
      cases b with
      | nil => exact absurd hp.length_eq (by simp)
      | cons y b =>
        have ha' := List.pairwise_cons.1 ha
        have hb' := List.pairwise_cons.1 hb
        have e : x = y := by
          apply Classical.byContradiction
          intro hne
          have hx : x ∈ b := by
            rcases List.mem_cons.1 (hp.mem_iff.1 (List.mem_cons_self ..)) with h | h
            · exact absurd h hne
            · exact h
          have hy : y ∈ a := by
            rcases List.mem_cons.1 (hp.mem_iff.2 (List.mem_cons_self ..)) with h | h
            · exact absurd h.symm hne
            · exact h
          exact lt_not f (ha'.1 y hy) (hb'.1 x hx)
        subst e
        rw [ih b ((List.perm_cons x).1 hp) ha'.2 hb'.2]
  exact key l (ord f n) (hp.trans h.1.symm) hl h.2
def pos (r : Int) (out : List Int) : Nat → Nat
  | 0 => 0
  | k + 1 => if f (out.getD k 0) < r then pos r out k else k + 1
theorem pos_ok (r : Int) (out : List Int) : ∀ k, pos f r out k ≤ k ∧ (∀ j, pos f r out k ≤ j → j < k → f (out.getD j 0) < r) ∧ (0 < pos f r out k → ¬ f (out.getD (pos f r out k - 1) 0) < r)
  | 0 => ⟨Nat.le_refl _, fun j h1 h2 => by omega, fun h => by simp [pos] at h⟩
  | k + 1 => by
    unfold pos
    by_cases h : f (out.getD k 0) < r
    · rw [if_pos h]
      obtain ⟨h1, h2, h3⟩ := pos_ok r out k
      refine ⟨by omega, fun j g1 g2 => ?_, h3⟩
      by_cases e : j = k
      · rw [e]; exact h
      · exact h2 j g1 (by omega)
    · rw [if_neg h]
      exact ⟨Nat.le_refl _, fun j g1 g2 => by omega, fun _ => h⟩
def ins (i : Int) (out : List Int) : List Int := out.take (pos f (f i) out out.length) ++ [i] ++ out.drop (pos f (f i) out out.length)
theorem ins_perm (i : Int) (out : List Int) : (ins f i out).Perm (out ++ [i]) := by
  unfold ins
  rw [List.append_assoc, List.singleton_append]
  refine List.perm_middle.trans ?_
  rw [List.take_append_drop]
  exact (List.perm_append_singleton i out).symm
theorem ins_pw (i : Int) (out : List Int) (h : out.Pairwise (lt f)) (hi : ∀ x ∈ out, x < i) : (ins f i out).Pairwise (lt f) := by
  obtain ⟨p1, p2, p3⟩ := pos_ok f (f i) out out.length
  unfold ins
  generalize pos f (f i) out out.length = q at *
  have hs := List.pairwise_append.1 (show (out.take q ++ out.drop q).Pairwise (lt f) by rw [List.take_append_drop]; exact h)
  have hB : ∀ y ∈ out.drop q, lt f i y := by
    intro y hy
    obtain ⟨j, hj, rfl⟩ := List.getElem_of_mem hy
    rw [List.length_drop] at hj
    have := p2 (q + j) (by omega) (by omega)
    rw [List.getD_eq_getElem?_getD, List.getElem?_eq_getElem (by omega : q + j < out.length)] at this
    left
    rw [List.getElem_drop]
    exact this
  have hA : ∀ x ∈ out.take q, lt f x i := by
    intro x hx
    obtain ⟨j, hj, rfl⟩ := List.getElem_of_mem hx
    rw [List.length_take] at hj
    have hq : 0 < q := by omega
    have hz := p3 hq
    rw [List.getD_eq_getElem?_getD, List.getElem?_eq_getElem (by omega : q - 1 < out.length)] at hz
    have hz' : ¬ f out[q - 1] < f i := hz
    have hm := hi out[j] (List.getElem_mem _)
    rw [List.getElem_take]
    have hr : f out[q - 1] ≤ f out[j] := by
      by_cases e : j = q - 1
      · subst e; exact Int.le_refl _
      · have := (List.pairwise_iff_getElem.1 h) j (q - 1) (by omega) (by omega) (by omega)
        unfold lt at this
        omega
    unfold lt
    omega
  rw [List.append_assoc, List.singleton_append]
  refine List.pairwise_append.2 ⟨hs.1, List.pairwise_cons.2 ⟨hB, hs.2.1⟩, fun x hx y hy => ?_⟩
  rcases List.mem_cons.1 hy with rfl | hy
  · exact hA x hx
  · exact hs.2.2 x hx y hy
def specO : Nat → List Int
  | 0 => []
  | i + 1 => ins f i (specO i)
theorem specO_ok : ∀ i, (specO f i).Perm (idx i) ∧ (specO f i).Pairwise (lt f)
  | 0 => ⟨List.Perm.refl _, List.Pairwise.nil⟩
  | i + 1 => by
    obtain ⟨h1, h2⟩ := specO_ok i
    refine ⟨?_, ins_pw f i _ h2 fun x hx => (mem_idx.1 (h1.mem_iff.1 hx)).2⟩
    rw [idx_succ]
    exact (ins_perm f i _).trans (h1.append_right _)
theorem specO_ord {n : Nat} (hn : n ≤ 40) : specO f n = ord f n := ord_unique f hn (specO_ok f n).1 (specO_ok f n).2
theorem ord_length {n : Nat} (hn : n ≤ 40) : (ord f n).length = n := by rw [(ord_ok f hn).1.length_eq, idx_length]
theorem specO_length (n : Nat) : (specO f n).length = n := by rw [(specO_ok f n).1.length_eq, idx_length]
theorem specO_mem {n : Nat} {x : Int} : x ∈ specO f n ↔ 0 ≤ x ∧ x < n := by rw [(specO_ok f n).1.mem_iff, mem_idx]
theorem ord_mem {n : Nat} (hn : n ≤ 40) {x : Int} : x ∈ ord f n ↔ 0 ≤ x ∧ x < n := by rw [(ord_ok f hn).1.mem_iff, mem_idx]
end
end Go.Proofs.Ytpnejhelandclaa.S7
namespace Go.Proofs.Ytpnejhelandclaa.W3
open Go Go.RowKit Go.Proofs.Ytpnejhelandclaa Go.Proofs.Ytpnejhelandclaa.P Go.Proofs.YtpnejhelandclaaW.PrintWords Go.Proofs.YtpnejhelandclaaW.PrintLast Go.Proofs.Ytpnejhelandclaa.EV Go.Proofs.Ytpnejhelandclaa.I1 Go.Proofs.Ytpnejhelandclaa.TI Go.Proofs.Ytpnejhelandclaa.W1 Go.Proofs.Ytpnejhelandclaa.W2 Go.Proofs.Ytpnejhelandclaa.S7
noncomputable def rm (t : Int) (l : List Int) (j : Int) : Int := (quota t l j).2.1
noncomputable def overP (t : Int) (l : List Int) (i : Nat) : List Int := (List.range i).map fun j : Nat => rm t l (j : Int)
section
variable (t : Int) (l : List Int)
theorem overP_succ (i : Nat) : overP t l (i + 1) = overP t l i ++ [rm t l (i : Int)] := by unfold overP; rw [List.range_succ, List.map_append]; rfl
theorem overP_length (i : Nat) : (overP t l i).length = i := by unfold overP; rw [List.length_map, List.length_range]
theorem rd_over (i : Nat) (x : Int) (h0 : 0 ≤ x) (h1 : x < i) : rd (overP t l i) x = rm t l x := by
  unfold rd overP
  rw [List.getD_eq_getElem?_getD, List.getElem?_map, List.getElem?_range (by omega)]
  show rm t l ((x.toNat : Nat) : Int) = _
  rw [Int.toNat_of_nonneg h0]
theorem cmp_ok (n : Nat) : S5.CmpOk (impl_ShareOrder.cmp (overP t l n)) (cb (rm t l)) (fun x => 0 ≤ x ∧ x < n) := by
  intro x y hx hy
  unfold impl_ShareOrder.cmp cb
  rw [overP_length, rd_over t l n x hx.1 hx.2, rd_over t l n y hy.1 hy.2, if_pos ⟨hx.1, hx.2, hy.1, hy.2⟩]
  refine ⟨_, rfl, ?_⟩
  rw [decide_eq_true_iff]
  by_cases h : rm t l y < rm t l x
  · rw [if_pos h]
    omega
  · rw [if_neg h]
    by_cases h2 : rm t l x < rm t l y
    · rw [if_pos h2]
      omega
    · rw [if_neg h2]
      omega
theorem order_i (hl : l.length ≤ 40) : ∀ (d i : Nat), l.length - i = d → i ≤ l.length → Ev (fun k => impl_ShareOrder.l0 k t l (idx i) (overP t l i) (l.length : Int) (i : Int)) (ord (rm t l) l.length) := by
  intro d
  induction d with
  | zero =>
    intro i hd hi
    obtain rfl : i = l.length := by omega
    refine Ev.step (f := fun k => SB.slices_stableCmpFunc_int.f k (idx l.length) ((l.length : Nat) : Int) (impl_ShareOrder.cmp (overP t l l.length))) (fun k => ?_) (S6.stb_ev (cmp_ok t l l.length) hl (idx l.length) ⟨idx_length _, fun e he => mem_idx.1 he⟩)
    simp only [impl_ShareOrder.l0]
    rw [if_neg (by omega), idx_length]
  | succ d ih =>
    intro i hd hi
    refine Ev.step (f := fun k => (impl_ShareQuota.f k t l (i : Int)).bind fun bt209 => (if (idx i).length < 17592186044416 then (if (overP t l i).length < 17592186044416 then (impl_ShareOrder.l0 k t l ((idx i) ++ [(i : Int)]) ((overP t l i) ++ [bt209.2.1]) (l.length : Int) (wrap64 ((i : Int) + 1))) else (none)) else (none))) (fun k => ?_) (Ev_bind (quota_i t l i) (Ev.congr (fun k => ?_) (ih (i + 1) (by omega) (by omega))))
    · simp only [impl_ShareOrder.l0]
      rw [if_pos (by omega)]
    · rw [if_pos (by rw [idx_length]; omega), if_pos (by rw [overP_length]; omega), idx_succ, overP_succ, w_succ (by omega : i < l.length) (by omega)]
      rfl
noncomputable def ordR : List Int := if okW l = true ∧ InT t then ord (rm t l) l.length else []
theorem shareOrder_i : Ev (fun k => impl_ShareOrder.f k t l) (ordR t l) := by
  unfold impl_ShareOrder.f ordR
  refine Ev_bind (shareable_i t l) ?_
  by_cases h : okW l = true
  · by_cases ht : InT t
    · rw [if_pos ⟨h, ht⟩]
      have ho := (okW_iff l).1 h
      have hl := ho.1
      refine Ev.congr (fun k => ?_) (order_i t l (by omega) l.length 0 (by omega) (by omega))
      rw [h, decide_eq_true ht, if_pos (by decide)]
      rfl
    · rw [if_neg (fun g => ht g.2)]
      exact Ev_all_k fun k => by rw [h, decide_eq_false ht, if_neg (by decide)]
  · rw [if_neg (fun g => h g.1)]
    exact Ev_all_k fun k => by rw [Bool.eq_false_iff.2 h, Bool.false_and, if_neg (by decide)]
theorem put_ev (R : List Int) (n i : Nat) (hi : i < n) (hn : n ≤ 40) (out left : List Int) (hout : out.length = i) (hleft : left.length = i + 1) (hmem : ∀ x ∈ out, 0 ≤ x ∧ x < i) (hrd : ∀ x : Int, 0 ≤ x → x < i → rd left x = rm t l x) (r : Int) :
    ∀ q : Nat, q ≤ i → Ev (fun k => spec_ShareOrder.l0 k t l (out.take (pos (rm t l) r out q) ++ [(i : Int)] ++ out.drop (pos (rm t l) r out q)) left ((i + 1 : Nat) : Int)) R → Ev (fun k => spec_ShareOrder.l1 k t l out left (i : Int) r (q : Int)) R := by
  have leave : ∀ (q : Nat), q ≤ i → ∀ k, ((some (([] : List Int) : List Int)).bind fun y190 => (if 0 ≤ (q : Int) then (if (q : Int) ≤ (out.length : Int) then ((some (out.take ((q : Int) : Int).toNat : List Int)).bind fun y193 => (if y190.length + y193.length < 17592186044416 then ((some (y190 ++ y193 : List Int)).bind fun y197 => (if y197.length < 17592186044416 then ((some (y197 ++ [(i : Int)] : List Int)).bind fun y200 => ((some (out.drop ((q : Int) : Int).toNat : List Int)).bind fun y203 => (if y200.length + y203.length < 17592186044416 then (spec_ShareOrder.l0 k t l (y200 ++ y203) left (wrap64 ((i : Int) + 1))) else (none)))) else (none))) else (none))) else (none)) else (none))) = spec_ShareOrder.l0 k t l (out.take q ++ [(i : Int)] ++ out.drop q) left ((i + 1 : Nat) : Int) := by
    intro q hq k
    rw [Option.bind_some, if_pos (by omega), if_pos (by omega), Option.bind_some, if_pos (by rw [List.length_nil, List.length_take]; omega), Option.bind_some, if_pos (by rw [List.nil_append, List.length_take]; omega), Option.bind_some, Option.bind_some, if_pos (by rw [List.nil_append, List.length_append, List.length_take, List.length_singleton, List.length_drop]; omega), w_succ hi (by omega), List.nil_append, Int.toNat_natCast]
  intro q
  induction q with
  | zero =>
    intro hq hR
    refine Ev.step (fun k => ?_) hR
    simp only [spec_ShareOrder.l1]
    rw [if_neg (by omega)]
    exact leave 0 (by omega) k
  | succ q ih =>
    intro hq hR
    have hx : out.getD q 0 ∈ out := by
      rw [List.getD_eq_getElem?_getD, List.getElem?_eq_getElem (by omega : q < out.length)]
      exact List.getElem_mem _
    have hb := hmem _ hx
    have ep : wrap64 (((q + 1 : Nat) : Int) - 1) = (q : Int) := by unfold wrap64; omega
    rw [pos] at hR
    by_cases g : rm t l (out.getD q 0) < r
    · rw [if_pos g] at hR
      refine Ev.step (fun k => ?_) (ih (by omega) hR)
      simp only [spec_ShareOrder.l1]
      rw [if_pos (by omega), ep, if_pos (by omega), if_pos (by omega), rdi, if_pos hb.1, if_pos (by omega), hrd _ hb.1 hb.2, if_pos g]
    · rw [if_neg g] at hR
      refine Ev.step (fun k => ?_) hR
      simp only [spec_ShareOrder.l1]
      rw [if_pos (by omega), ep, if_pos (by omega), if_pos (by omega), rdi, if_pos hb.1, if_pos (by omega), hrd _ hb.1 hb.2, if_neg g]
      exact leave (q + 1) (by omega) k
theorem order_s (hl : l.length ≤ 40) : ∀ (d i : Nat), l.length - i = d → i ≤ l.length → Ev (fun k => spec_ShareOrder.l0 k t l (specO (rm t l) i) (overP t l i) (i : Int)) (specO (rm t l) l.length) := by
  intro d
  induction d with
  | zero =>
    intro i hd hi
    obtain rfl : i = l.length := by omega
    exact Ev_one fun k => by
      simp only [spec_ShareOrder.l0]
      rw [if_neg (by omega)]
  | succ d ih =>
    intro i hd hi
    refine Ev.step (f := fun k => (spec_ShareQuota.f k t l (i : Int)).bind fun bt182 => (if (overP t l i).length < 17592186044416 then (spec_ShareOrder.l1 k t l (specO (rm t l) i) ((overP t l i) ++ [bt182.2.1]) (i : Int) bt182.2.1 ((specO (rm t l) i).length : Int)) else (none))) (fun k => ?_) (Ev_bind (quota_s t l i) (Ev.congr (f := fun k => spec_ShareOrder.l1 k t l (specO (rm t l) i) (overP t l (i + 1)) (i : Int) (rm t l (i : Int)) ((i : Nat) : Int)) (fun k => ?_) (put_ev t l _ l.length i (by omega) hl _ _ (specO_length _ i) (overP_length t l (i + 1)) (fun x hx => (specO_mem _).1 hx) (fun x h0 h1 => rd_over t l (i + 1) x h0 (by omega)) _ i (Nat.le_refl _) ?_)))
    · simp only [spec_ShareOrder.l0]
      rw [if_pos (by omega)]
    · rw [if_pos (by rw [overP_length]; omega), specO_length, overP_succ]
      rfl
    · have e : specO (rm t l) (i + 1) = (specO (rm t l) i).take (pos (rm t l) (rm t l i) (specO (rm t l) i) i) ++ [(i : Int)] ++ (specO (rm t l) i).drop (pos (rm t l) (rm t l i) (specO (rm t l) i) i) := by
        show ins (rm t l) i (specO (rm t l) i) = _
        unfold ins
        rw [specO_length]
      rw [← e]
      exact ih (i + 1) (by omega) (by omega)
theorem shareOrder_s : Ev (fun k => spec_ShareOrder.f k t l) (ordR t l) := by
  unfold spec_ShareOrder.f ordR
  refine Ev.congr (f := fun k => (spec_WeightsOk.f k l).bind fun t177 => (if t177 = true then ((spec_l1Some.f t 0).bind fun t178 => (spec_ShareOrder.j0 k t l [] (!t178))) else (spec_ShareOrder.j0 k t l [] true))) (fun k => rfl) (Ev_bind (weightsOk_s l) ?_)
  have no : Ev (fun k => spec_ShareOrder.j0 k t l [] true) [] := Ev_one fun k => by
    simp only [spec_ShareOrder.j0]
    rw [if_pos trivial]
  by_cases h : okW l = true
  · have ho := (okW_iff l).1 h
    have hl := ho.1
    by_cases ht : InT t
    · rw [if_pos ⟨h, ht⟩, ← specO_ord (rm t l) (by omega)]
      refine Ev.congr (f := fun k => spec_ShareOrder.j0 k t l [] false) (fun k => ?_) (Ev.step (fun k => ?_) (order_s t l (by omega) l.length 0 (by omega) (by omega)))
      · rw [if_pos h, some_s1, Option.bind_some, decide_eq_true (show 0 ≤ t ∧ t ≤ 1000000000000000 from ht)]
        rfl
      · simp only [spec_ShareOrder.j0]
        rw [if_neg (by decide)]
        rfl
    · rw [if_neg (fun g => ht g.2)]
      refine Ev.congr (fun k => ?_) no
      rw [if_pos h, some_s1, Option.bind_some, decide_eq_false (show ¬ (0 ≤ t ∧ t ≤ 1000000000000000) from ht)]
      rfl
  · rw [if_neg (fun g => h g.1)]
    exact Ev.congr (fun k => by rw [if_neg h]) no
end
end Go.Proofs.Ytpnejhelandclaa.W3
