/- What the law FnExactBalsPost leans on, cut out of this repo's own texts by a program of this repo: plain functions, the walks that tie the Go calls to them, the law over lists and numbers, and the row. -/
import Derived.Test.YtpcjpjjkaplebaaZFnExactBalsPost3
import Derived.RowKit
import Derived.IntWalk
namespace Go.Proofs.Ytpcjpjjkaplebaa.P
end Go.Proofs.Ytpcjpjjkaplebaa.P
namespace Go.Proofs.Ytpcjpjjkaplebaa.EV
end Go.Proofs.Ytpcjpjjkaplebaa.EV
namespace Go.Proofs.Ytpcjpjjkaplebaa.I1
end Go.Proofs.Ytpcjpjjkaplebaa.I1
namespace Go.Proofs.Ytpcjpjjkaplebaa.N1
end Go.Proofs.Ytpcjpjjkaplebaa.N1
namespace Go.Proofs.Ytpcjpjjkaplebaa.B1
end Go.Proofs.Ytpcjpjjkaplebaa.B1
namespace Go.Proofs.Ytpcjpjjkaplebaa.B2
end Go.Proofs.Ytpcjpjjkaplebaa.B2
namespace Go.Proofs.Ytpcjpjjkaplebaa.B3
end Go.Proofs.Ytpcjpjjkaplebaa.B3
namespace Go.Proofs.Ytpcjpjjkaplebaa.P
open Go.RowKit Go.Proofs.YtpcjpjjkaplebaaW.PrintWords Go.Proofs.YtpcjpjjkaplebaaW.PrintLast Go.Proofs.YtpcjpjjkaplebaaW.PrintMore
attribute [local go_sem] max2_int min2_int max_two min_two max_three min_three max_four min_four   -- for this text's walks alone
set_option linter.unusedVariables false
set_option linter.unusedSimpArgs false
mutual
def impl_BalsPost.j0 : Nat → List (S58) → List (S61) → List Int → Bool → Option ((List (S58)) × Int)
 | 0, _, _, _, _ => none
 | k + 1, x0, x1, x2, x27 => if x27 = true then (some (([] : List (S58)), 1)) else ((impl_Bal_62.f x0).bind fun t428 => ((impl_LegsOk.f k x1).bind fun t431 => (if t431 = true then ((impl_Bal_62.f x0).bind fun t432 => (impl_BalsPost.l0 k x1 x2 t428 t432 x1 (x1.length : Int) 0)) else (some (t428, 2)))))
def impl_BalsPost.l0 : Nat → List (S61) → List Int → List (S58) → List (S58) → List (S61) → Int → Int → Option ((List (S58)) × Int)
 | 0, _, _, _, _, _, _, _ => none
 | k + 1, x1, x2, x8, x9, x36, x37, x38 => if x38 < x37 then (if 0 ≤ x38 then (if x38 < (x36.length : Int) then ((impl_balOf.f k x9 ((rd_T61 x36 x38).f0) ((rd_T61 x36 x38).f1)).bind fun t437 => ((impl_AmountOk.f (wrap64 (t437 + ((rd_T61 x36 x38).f2)))).bind fun t438 => (if t438 = true then ((impl_withBal.f k x9 ((rd_T61 x36 x38).f0) ((rd_T61 x36 x38).f1) (wrap64 (t437 + ((rd_T61 x36 x38).f2)))).bind fun t439 => (impl_BalsPost.l0 k x1 x2 x8 t439 x36 x37 (wrap64 (x38 + 1)))) else (some (x8, 4))))) else (none)) else (none)) else (impl_BalsPost.l1 k x2 x8 x9 x1 (x1.length : Int) 0)
def impl_BalsPost.l1 : Nat → List Int → List (S58) → List (S58) → List (S61) → Int → Int → Option ((List (S58)) × Int)
 | 0, _, _, _, _, _, _ => none
 | k + 1, x2, x8, x9, x63, x64, x65 => if x65 < x64 then (if 0 ≤ x65 then (if x65 < (x63.length : Int) then ((slices_Contains_int_int.f k x2 ((rd_T61 x63 x65).f0)).bind fun t444 => (if t444 = true then (impl_BalsPost.l1 k x2 x8 x9 x63 x64 (wrap64 (x65 + 1))) else ((impl_balOf.f k x9 ((rd_T61 x63 x65).f0) ((rd_T61 x63 x65).f1)).bind fun t445 => (if t445 < 0 then (some (x8, 3)) else (impl_BalsPost.l1 k x2 x8 x9 x63 x64 (wrap64 (x65 + 1))))))) else (none)) else (none)) else (if (x9.length : Int) > 160 then (some (x8, 5)) else (some (x9, 0)))
end
def impl_BalsPost.f (k : Nat) (l0 : List (S58)) (l1 : List (S61)) (l2 : List Int) : Option ((List (S58)) × Int) := (impl_BalsOk.f k l0).bind fun t426 => (if t426 = true then ((impl_legsForm.f l1).bind fun t427 => (if t427 = true then (impl_BalsPost.j0 k l0 l1 l2 (decide ((l2.length : Int) > 20))) else (impl_BalsPost.j0 k l0 l1 l2 true))) else (impl_BalsPost.j0 k l0 l1 l2 true))
def impl_BalsPost.T10 : Bool × List (List Nat × List Nat) := (true, [([], []), ([], []), ([1], [1]), ([], []), ([3], [3]), ([0, 2, 4], [0, 2, 4]), ([], []), ([6], [6]), ([5, 7], [5, 7]), ([8, 5, 0, 1, 2, 3, 4, 5, 6, 7, 8], [8])])
def impl_BalsPost.B10 : List Nat := [0, 0, 2, 0, 8, 31, 0, 64, 255, 511]
theorem impl_BalsPost.tab10 : rtab .any (opsOf Try.f32 10) = impl_BalsPost.T10 := by kernel_rfl
theorem impl_BalsPost.bits10 : waitsOk impl_BalsPost.T10.2 impl_BalsPost.B10 = true := by kernel_rfl
set_option maxHeartbeats 8000000 in
set_option maxRecDepth 100000 in
theorem impl_BalsPost.calls (k : Nat) (A0 : Option Addr) (c0 : Nat) (l0 : List (S58)) (A1 : Option Addr) (c1 : Nat) (l1 : List (S61)) (A2 : Option Addr) (c2 : Nat) (l2 : List Int) (r1 : List (S58)) (r2 : Int) (w : World) (hr0 : Kd.C k58 w A0 l0.length l0) (hc0 : l0.length ≤ c0) (hr1 : Kd.C k61 w A1 l1.length l1) (hc1 : l1.length ≤ c1) (hr2 : Kd.C (Kd.int .i64) w A2 l2.length l2) (hc2 : l2.length ≤ c2) (h : impl_BalsPost.f k l0 l1 l2 = some (r1, r2)) :
 Calls Try.prog 32 #[.slice A0 l0.length c0, .slice A1 l1.length c1, .slice A2 l2.length c2] w fun e w' => ∃ v0_ : Value, e = .returned (.tuple #[v0_, .int .i64 r2]) ∧ Kd.R k58 58 w' w.heap.size (fun _ => True) v0_ r1 ∧ Below w.heap.size w w' := by
 have hu61 := Try.underlying61
 have HR0 := Aside0.mk hr0
 have HC0 := Aside0.mk hc0
 clear hr0 hc0
 have HR1 := Aside0.mk hr1
 have HC1 := Aside0.mk hc1
 clear hr1 hc1
 have HR2 := Aside0.mk hr2
 have HC2 := Aside0.mk hc2
 clear hr2 hc2
 have HB := Aside0.mk (Below.refl w.heap.size w)
 have H : ((impl_BalsOk.f k l0).bind fun t426 => (if t426 = true then ((impl_legsForm.f l1).bind fun t427 => (if t427 = true then (impl_BalsPost.j0 k l0 l1 l2 (decide ((l2.length : Int) > 20))) else (impl_BalsPost.j0 k l0 l1 l2 true))) else (impl_BalsPost.j0 k l0 l1 l2 true))) = some (r1, r2) := h
 clear h
 have HC4 := Aside0.mk H
 clear H
 go_enter Try.func32, Try.ntmps32
 go_upto_region 1 with (fail)
 go_cut [27] (fun v27 wc => ∃ (kq : Nat) (x27_3 : Bool), v27 = .bool x27_3 ∧ Aside0 (impl_BalsPost.j0 kq l0 l1 l2 x27_3 = some (r1, r2)) ∧ Aside0 (kq ≤ k) ∧ Aside0 (Below w.heap.size w wc))
 case first =>
  have H := HC4.out
  clear HC4
  replace H := Option.bind_eq_some_iff.mp H
  obtain ⟨t426, A50, H⟩ := H
  replace H : (if t426 = true then ((impl_legsForm.f l1).bind fun t427 => (if t427 = true then (impl_BalsPost.j0 k l0 l1 l2 (decide ((l2.length : Int) > 20))) else (impl_BalsPost.j0 k l0 l1 l2 true))) else (impl_BalsPost.j0 k l0 l1 l2 true)) = some (r1, r2) := H
  have A5 := Aside0.mk A50
  clear A50
  by_cases c6 : t426 = true
  ·
   subst c6
   have H1 : ((impl_legsForm.f l1).bind fun t427 => (if t427 = true then (impl_BalsPost.j0 k l0 l1 l2 (decide ((l2.length : Int) > 20))) else (impl_BalsPost.j0 k l0 l1 l2 true))) = some (r1, r2) := by rw [if_pos rfl] at H; exact H
   clear H
   have H := H1
   clear H1
   replace H := Option.bind_eq_some_iff.mp H
   obtain ⟨t427, A70, H⟩ := H
   replace H : (if t427 = true then (impl_BalsPost.j0 k l0 l1 l2 (decide ((l2.length : Int) > 20))) else (impl_BalsPost.j0 k l0 l1 l2 true)) = some (r1, r2) := H
   have A7 := Aside0.mk A70
   clear A70
   by_cases c8 : t427 = true
   ·
    subst c8
    have H1 : (impl_BalsPost.j0 k l0 l1 l2 (decide ((l2.length : Int) > 20))) = some (r1, r2) := by rw [if_pos rfl] at H; exact H
    clear H
    have H := H1
    clear H1
    have H' := Aside0.mk H
    clear H
    go_wp2_with (first | ((with_reducible refine gate_callee (f := 15) rfl ?_); refine goesL_ (some 16) rfl rfl Try.func15 (by kernel_rfl) rfl #[.slice A0 l0.length c0] rfl (by (try simp only [List.map_toArray, List.map_cons, List.map_nil]); first | done | rfl | (simp only [List.length_drop, List.length_take]; rfl)) ?_; (with_reducible refine (impl_BalsOk.calls k _ _ l0 true _ ?side1 ?side2 A5.out).mono ?_); (case side1 => repeat (first | exact (Kd.C_below HR0.out HB.out) | (with_reducible refine Kd.C_alloc ?_ _) | (with_reducible refine Kd.C_drewN ?_ _) | (with_reducible refine Kd.C_drew ?_))); (case side2 => exact HC0.out); rintro e w9 ⟨rfl, hb⟩; refine ⟨_, rfl, ?_⟩; have n0_ := Aside0.mk (below_step (by repeat (first | (with_reducible first | exact HB.out | apply below_alloc | apply pw_below_drewN | apply below_drew1) | exact HB.out)) hb); clear HB; have HB := n0_; clear n0_; (try clear hb); (try clear hb2); (try clear hk); (try clear hi)) | (go_at_call 51; (with_reducible refine (impl_legsForm.calls _ _ l1 true _ ?side1 ?side2 A7.out).mono ?_); (case side1 => repeat (first | exact (Kd.C_below HR1.out HB.out) | (with_reducible refine Kd.C_alloc ?_ _) | (with_reducible refine Kd.C_drewN ?_ _) | (with_reducible refine Kd.C_drew ?_))); (case side2 => exact HC1.out); rintro e w10 ⟨rfl, hb⟩; have n0_ := Aside0.mk (below_step (by repeat (first | (with_reducible first | exact HB.out | apply below_alloc | apply pw_below_drewN | apply below_drew1) | exact HB.out)) hb); clear HB; have HB := n0_; clear n0_; (try clear hb); (try clear hb2); (try clear hk); (try clear hi)))
    go_meet
    case rel => exact ⟨_, (decide ((l2.length : Int) > 20)), (by first | rfl | (simp; done) | (simp [*]; done)), H', ⟨by first | omega | exact Nat.le_refl _⟩, ⟨by repeat (first | (with_reducible first | exact HB.out | apply below_alloc | apply pw_below_drewN | apply below_drew1) | exact HB.out)⟩⟩
   ·
    replace c8 := Bool.eq_false_iff.mpr c8
    subst c8
    have H1 : (impl_BalsPost.j0 k l0 l1 l2 true) = some (r1, r2) := by rw [if_neg (show ¬ (false = true) by decide)] at H; exact H
    clear H
    have H := H1
    clear H1
    have H' := Aside0.mk H
    clear H
    go_wp2_with (first | ((with_reducible refine gate_callee (f := 15) rfl ?_); refine goesL_ (some 16) rfl rfl Try.func15 (by kernel_rfl) rfl #[.slice A0 l0.length c0] rfl (by (try simp only [List.map_toArray, List.map_cons, List.map_nil]); first | done | rfl | (simp only [List.length_drop, List.length_take]; rfl)) ?_; (with_reducible refine (impl_BalsOk.calls k _ _ l0 true _ ?side1 ?side2 A5.out).mono ?_); (case side1 => repeat (first | exact (Kd.C_below HR0.out HB.out) | (with_reducible refine Kd.C_alloc ?_ _) | (with_reducible refine Kd.C_drewN ?_ _) | (with_reducible refine Kd.C_drew ?_))); (case side2 => exact HC0.out); rintro e w11 ⟨rfl, hb⟩; refine ⟨_, rfl, ?_⟩; have n0_ := Aside0.mk (below_step (by repeat (first | (with_reducible first | exact HB.out | apply below_alloc | apply pw_below_drewN | apply below_drew1) | exact HB.out)) hb); clear HB; have HB := n0_; clear n0_; (try clear hb); (try clear hb2); (try clear hk); (try clear hi)) | (go_at_call 51; (with_reducible refine (impl_legsForm.calls _ _ l1 false _ ?side1 ?side2 A7.out).mono ?_); (case side1 => repeat (first | exact (Kd.C_below HR1.out HB.out) | (with_reducible refine Kd.C_alloc ?_ _) | (with_reducible refine Kd.C_drewN ?_ _) | (with_reducible refine Kd.C_drew ?_))); (case side2 => exact HC1.out); rintro e w12 ⟨rfl, hb⟩; have n0_ := Aside0.mk (below_step (by repeat (first | (with_reducible first | exact HB.out | apply below_alloc | apply pw_below_drewN | apply below_drew1) | exact HB.out)) hb); clear HB; have HB := n0_; clear n0_; (try clear hb); (try clear hb2); (try clear hk); (try clear hi)))
    go_meet
    case rel => exact ⟨_, (true), (by first | rfl | (simp; done) | (simp [*]; done)), H', ⟨by first | omega | exact Nat.le_refl _⟩, ⟨by repeat (first | (with_reducible first | exact HB.out | apply below_alloc | apply pw_below_drewN | apply below_drew1) | exact HB.out)⟩⟩
  ·
   replace c6 := Bool.eq_false_iff.mpr c6
   subst c6
   have H1 : (impl_BalsPost.j0 k l0 l1 l2 true) = some (r1, r2) := by rw [if_neg (show ¬ (false = true) by decide)] at H; exact H
   clear H
   have H := H1
   clear H1
   have H' := Aside0.mk H
   clear H
   go_wp2_with (first | ((with_reducible refine gate_callee (f := 15) rfl ?_); refine goesL_ (some 16) rfl rfl Try.func15 (by kernel_rfl) rfl #[.slice A0 l0.length c0] rfl (by (try simp only [List.map_toArray, List.map_cons, List.map_nil]); first | done | rfl | (simp only [List.length_drop, List.length_take]; rfl)) ?_; (with_reducible refine (impl_BalsOk.calls k _ _ l0 false _ ?side1 ?side2 A5.out).mono ?_); (case side1 => repeat (first | exact (Kd.C_below HR0.out HB.out) | (with_reducible refine Kd.C_alloc ?_ _) | (with_reducible refine Kd.C_drewN ?_ _) | (with_reducible refine Kd.C_drew ?_))); (case side2 => exact HC0.out); rintro e w13 ⟨rfl, hb⟩; refine ⟨_, rfl, ?_⟩; have n0_ := Aside0.mk (below_step (by repeat (first | (with_reducible first | exact HB.out | apply below_alloc | apply pw_below_drewN | apply below_drew1) | exact HB.out)) hb); clear HB; have HB := n0_; clear n0_; (try clear hb); (try clear hb2); (try clear hk); (try clear hi)))
   go_meet
   case rel => exact ⟨_, (true), (by first | rfl | (simp; done) | (simp [*]; done)), H', ⟨by first | omega | exact Nat.le_refl _⟩, ⟨by repeat (first | (with_reducible first | exact HB.out | apply below_alloc | apply pw_below_drewN | apply below_drew1) | exact HB.out)⟩⟩
 case rest =>
  clear HC4
  try clear c1
  try clear c2
  try clear p2
  try clear c3
  try clear c6
  try clear c8
  obtain ⟨kq, x27_3, rfl, HA, HJ3, HB⟩ := hcut
  cases kq with
  | zero => exact absurd HA.out (by simp [impl_BalsPost.j0])
  | succ kj3 =>
   have H := HA.out
   clear HA
   simp only [impl_BalsPost.j0] at H
   by_cases c14 : x27_3 = true
   ·
    subst c14
    have H1 : (some (([] : List (S58)), 1)) = some (r1, r2) := by rw [if_pos rfl] at H; exact H
    clear H
    have H := H1
    clear H1
    simp only [Option.some.injEq, Prod.mk.injEq] at H
    obtain ⟨rfl, rfl⟩ := H
    go_wp2
    go_ret2
    exact ⟨_, by first | rfl | (simp [errW_none, errW_some] <;> rfl) | (simp [*, errW_none, errW_some] <;> rfl), by first | exact Kd.R_nil _ _ _ _ _ | exact Kd.N_nil _ _ _ _ _ | exact Kd.V_nil _ _ _ _ _ | exact Kd.Q_nil _ _ _ _ _ | exact Kd.S_nil _ _ _ _ _, by repeat (first | (with_reducible first | exact HB.out | apply below_alloc | apply pw_below_drewN | apply below_drew1) | exact HB.out)⟩
   ·
    replace c14 := Bool.eq_false_iff.mpr c14
    subst c14
    have H1 : ((impl_Bal_62.f l0).bind fun t428 => ((impl_LegsOk.f kj3 l1).bind fun t431 => (if t431 = true then ((impl_Bal_62.f l0).bind fun t432 => (impl_BalsPost.l0 kj3 l1 l2 t428 t432 l1 (l1.length : Int) 0)) else (some (t428, 2))))) = some (r1, r2) := by rw [if_neg (show ¬ (false = true) by decide)] at H; exact H
    clear H
    have H := H1
    clear H1
    replace H := Option.bind_eq_some_iff.mp H
    obtain ⟨t428, A150, H⟩ := H
    replace H : ((impl_LegsOk.f kj3 l1).bind fun t431 => (if t431 = true then ((impl_Bal_62.f l0).bind fun t432 => (impl_BalsPost.l0 kj3 l1 l2 t428 t432 l1 (l1.length : Int) 0)) else (some (t428, 2)))) = some (r1, r2) := H
    have A15 := Aside0.mk A150
    clear A150
    replace H := Option.bind_eq_some_iff.mp H
    obtain ⟨t431, A160, H⟩ := H
    replace H : (if t431 = true then ((impl_Bal_62.f l0).bind fun t432 => (impl_BalsPost.l0 kj3 l1 l2 t428 t432 l1 (l1.length : Int) 0)) else (some (t428, 2))) = some (r1, r2) := H
    have A16 := Aside0.mk A160
    clear A160
    by_cases c17 : t431 = true
    ·
     subst c17
     have H1 : ((impl_Bal_62.f l0).bind fun t432 => (impl_BalsPost.l0 kj3 l1 l2 t428 t432 l1 (l1.length : Int) 0)) = some (r1, r2) := by rw [if_pos rfl] at H; exact H
     clear H
     have H := H1
     clear H1
     replace H := Option.bind_eq_some_iff.mp H
     obtain ⟨t432, A180, H⟩ := H
     replace H : (impl_BalsPost.l0 kj3 l1 l2 t428 t432 l1 (l1.length : Int) 0) = some (r1, r2) := H
     have A18 := Aside0.mk A180
     clear A180
     have H' := Aside0.mk H
     clear H
     go_wp2_with (first | ((with_reducible refine gate_callee (f := 62) rfl ?_); refine goesL_ (some 29) rfl rfl Try.func62 (by kernel_rfl) rfl #[.slice A0 l0.length c0] rfl (by (try simp only [List.map_toArray, List.map_cons, List.map_nil]); first | done | rfl | (simp only [List.length_drop, List.length_take]; rfl)) ?_; (with_reducible refine (impl_Bal_62.calls _ _ l0 t428 _ ?side1 ?side2 A15.out).mono ?_); (case side1 => repeat (first | exact (Kd.C_below HR0.out HB.out) | (with_reducible refine Kd.C_alloc ?_ _) | (with_reducible refine Kd.C_drewN ?_ _) | (with_reducible refine Kd.C_drew ?_))); (case side2 => exact HC0.out); rintro e w19 ⟨v429, rfl, ho0, hb⟩; refine ⟨_, rfl, ?_⟩; have n0_ := Aside0.mk (Kd.R_lower ho0 (below_size (by repeat (first | (with_reducible first | exact HB.out | apply below_alloc | apply pw_below_drewN | apply below_drew1) | exact HB.out)))); have n1_ := Aside0.mk (below_step (by repeat (first | (with_reducible first | exact HB.out | apply below_alloc | apply pw_below_drewN | apply below_drew1) | exact HB.out)) hb); clear HB; have HO430 := n0_; have HB := n1_; clear n0_ n1_; (try clear hb); (try clear hb2); (try clear hk); (try clear hi); (try clear ho0)) | ((with_reducible refine gate_callee (f := 20) rfl ?_); refine goesL_ (some 31) rfl rfl Try.func20 (by kernel_rfl) rfl #[.slice A1 l1.length c1] rfl (by (try simp only [List.map_toArray, List.map_cons, List.map_nil]); first | done | rfl | (simp only [List.length_drop, List.length_take]; rfl)) ?_; (with_reducible refine (impl_LegsOk.calls kj3 _ _ l1 true _ ?side1 ?side2 A16.out).mono ?_); (case side1 => repeat (first | exact (Kd.C_below HR1.out HB.out) | (with_reducible refine Kd.C_alloc ?_ _) | (with_reducible refine Kd.C_drewN ?_ _) | (with_reducible refine Kd.C_drew ?_))); (case side2 => exact HC1.out); rintro e w20 ⟨rfl, hb⟩; refine ⟨_, rfl, ?_⟩; have n0_ := Aside0.mk (Kd.R_below (by (with_reducible repeat (first | apply Kd.R_alloc | apply Kd.R_drewN | apply Kd.R_drew)); exact HO430.out) hb); have n1_ := Aside0.mk (below_step (by repeat (first | (with_reducible first | exact HB.out | apply below_alloc | apply pw_below_drewN | apply below_drew1) | exact HB.out)) hb); clear HO430; clear HB; have HO430 := n0_; have HB := n1_; clear n0_ n1_; (try clear hb); (try clear hb2); (try clear hk); (try clear hi)) | ((with_reducible refine gate_callee (f := 62) rfl ?_); refine goesL_ (some 35) rfl rfl Try.func62 (by kernel_rfl) rfl #[.slice A0 l0.length c0] rfl (by (try simp only [List.map_toArray, List.map_cons, List.map_nil]); first | done | rfl | (simp only [List.length_drop, List.length_take]; rfl)) ?_; (with_reducible refine (impl_Bal_62.calls _ _ l0 t432 _ ?side1 ?side2 A18.out).mono ?_); (case side1 => repeat (first | exact (Kd.C_below HR0.out HB.out) | (with_reducible refine Kd.C_alloc ?_ _) | (with_reducible refine Kd.C_drewN ?_ _) | (with_reducible refine Kd.C_drew ?_))); (case side2 => exact HC0.out); rintro e w21 ⟨v433, rfl, ho0, hb⟩; refine ⟨_, rfl, ?_⟩; have n0_ := Aside0.mk (Kd.R_elder' (by (with_reducible repeat (first | apply Kd.R_alloc | apply Kd.R_drewN | apply Kd.R_drew)); exact HO430.out) (Kd.R_base ho0) hb); have n1_ := Aside0.mk (Kd.R_lower (Kd.R_new' ho0 (Kd.R_lt (by (with_reducible repeat (first | apply Kd.R_alloc | apply Kd.R_drewN | apply Kd.R_drew)); exact HO430.out))) (below_size (by repeat (first | (with_reducible first | exact HB.out | apply below_alloc | apply pw_below_drewN | apply below_drew1) | exact HB.out)))); have n2_ := Aside0.mk (below_step (by repeat (first | (with_reducible first | exact HB.out | apply below_alloc | apply pw_below_drewN | apply below_drew1) | exact HB.out)) hb); clear HO430; clear HB; have HO430 := n0_; have HO434 := n1_; have HB := n2_; clear n0_ n1_ n2_; (try clear hb); (try clear hb2); (try clear hk); (try clear hi); (try clear ho0)))
     go_loopg [9, 38] kj3 (fun kq v9 v38 w' => ∃ (x9_2 : List (S58)) (x38_2 : Int), v38 = .int .i64 x38_2 ∧ Aside0 (impl_BalsPost.l0 kq l1 l2 t428 x9_2 l1 (l1.length : Int) x38_2 = some (r1, r2)) ∧ Aside0 (kq ≤ kj3) ∧ Aside0 (Kd.R k58 58 w' w.heap.size (fun k_ => some k_ ≠ (v9 : Value).ownBlock) v429 t428) ∧ Aside0 (Kd.R k58 58 w' w.heap.size (fun k_ => some k_ ≠ (v429 : Value).ownBlock) v9 x9_2) ∧ Aside0 (Below w.heap.size w w'))
     case atStart => exact ⟨(t432), (0), (by first | rfl | (simp; done) | (simp [*]; done)), H', ⟨Nat.le_refl _⟩, ⟨by (with_reducible repeat (first | apply Kd.R_alloc | apply Kd.R_drewN | apply Kd.R_drew)); exact Kd.R_mono HO430.out (fun _ hk => hk.2)⟩, ⟨by (with_reducible repeat (first | apply Kd.R_alloc | apply Kd.R_drewN | apply Kd.R_drew)); exact Kd.R_mono HO434.out (fun _ hk => hk.2)⟩, ⟨by repeat (first | (with_reducible first | exact HB.out | apply below_alloc | apply pw_below_drewN | apply below_drew1) | exact HB.out)⟩⟩
     case round =>
      clear H'
      try clear c1
      try clear c2
      try clear p2
      try clear c3
      try clear c6
      try clear c8
      try clear c14
      try clear c15
      try clear c17
      try clear c20
      try clear p2
      obtain ⟨x9_2, x38_2, rfl, HA, HK2, HO_8, HO_9, HB⟩ := hrel
      cases gk with
      | zero => exact absurd HA.out (by simp [impl_BalsPost.l0])
      | succ k2 =>
       have H := HA.out
       clear HA
       simp only [impl_BalsPost.l0] at H
       by_cases c22 : x38_2 < (l1.length : Int)
       ·
        rw [if_pos c22] at H
        have c22b0 : decide (x38_2 < (l1.length : Int)) = true := decide_eq_true c22
        clear c22
        by_cases c23 : 0 ≤ x38_2
        ·
         rw [if_pos c23] at H
         have c23b0 : decide (0 ≤ x38_2) = true := decide_eq_true c23
         clear c23
         by_cases c24 : x38_2 < (l1.length : Int)
         ·
          rw [if_pos c24] at H
          have c24b0 : decide (x38_2 < (l1.length : Int)) = true := decide_eq_true c24
          clear c24
          replace H := Option.bind_eq_some_iff.mp H
          obtain ⟨t437, A250, H⟩ := H
          replace H : ((impl_AmountOk.f (wrap64 (t437 + ((rd_T61 l1 x38_2).f2)))).bind fun t438 => (if t438 = true then ((impl_withBal.f k2 x9_2 ((rd_T61 l1 x38_2).f0) ((rd_T61 l1 x38_2).f1) (wrap64 (t437 + ((rd_T61 l1 x38_2).f2)))).bind fun t439 => (impl_BalsPost.l0 k2 l1 l2 t428 t439 l1 (l1.length : Int) (wrap64 (x38_2 + 1)))) else (some (t428, 4)))) = some (r1, r2) := H
          have A25 := Aside0.mk A250
          clear A250
          replace H := Option.bind_eq_some_iff.mp H
          obtain ⟨t438, A260, H⟩ := H
          replace H : (if t438 = true then ((impl_withBal.f k2 x9_2 ((rd_T61 l1 x38_2).f0) ((rd_T61 l1 x38_2).f1) (wrap64 (t437 + ((rd_T61 l1 x38_2).f2)))).bind fun t439 => (impl_BalsPost.l0 k2 l1 l2 t428 t439 l1 (l1.length : Int) (wrap64 (x38_2 + 1)))) else (some (t428, 4))) = some (r1, r2) := H
          have A26 := Aside0.mk A260
          clear A260
          by_cases c27 : t438 = true
          ·
           subst c27
           have H1 : ((impl_withBal.f k2 x9_2 ((rd_T61 l1 x38_2).f0) ((rd_T61 l1 x38_2).f1) (wrap64 (t437 + ((rd_T61 l1 x38_2).f2)))).bind fun t439 => (impl_BalsPost.l0 k2 l1 l2 t428 t439 l1 (l1.length : Int) (wrap64 (x38_2 + 1)))) = some (r1, r2) := by rw [if_pos rfl] at H; exact H
           clear H
           have H := H1
           clear H1
           replace H := Option.bind_eq_some_iff.mp H
           obtain ⟨t439, A280, H⟩ := H
           replace H : (impl_BalsPost.l0 k2 l1 l2 t428 t439 l1 (l1.length : Int) (wrap64 (x38_2 + 1))) = some (r1, r2) := H
           have A28 := Aside0.mk A280
           clear A280
           have H' := Aside0.mk H
           clear H
           have p435 : 0 ≤ (x38_2 : Int) := of_decide_eq_true (by first | (with_reducible assumption) | assumption)
           have q435 : x38_2 < (l1.length : Int) := of_decide_eq_true (by first | (with_reducible assumption) | assumption)
           obtain ⟨ad435, e435, hx435_0, hx435_1, hx435_2⟩ := at_T61 HR1.out x38_2 p435 q435
           cases e435
           replace hx435_0 := (HB.out.cell (World.block_lt_of_cell? w _ hx435_0)).trans hx435_0
           replace hx435_1 := (HB.out.cell (World.block_lt_of_cell? w _ hx435_1)).trans hx435_1
           replace hx435_2 := (HB.out.cell (World.block_lt_of_cell? w _ hx435_2)).trans hx435_2
           replace p435 := eq_true p435
           replace q435 := eq_true q435
           try go_wp2_with (first | ((with_reducible refine gate_dst (N := 11) rfl ?_); (try (refine gate_guard (by rfl) ?_; dsimp only)); refine box_event ?hg (N := 11) ?hd (cs := #[.int .i64 0, .int .i64 0, .int .i64 0]) (t := 61) ?hr ?_; (case hd => rfl); (case hg => rfl); (case hr => first | (go_simp; done) | (go_simp; rfl)); intro gb436 hg w29 hbox hb; have n0_ := Aside0.mk (Kd.R_below (by (with_reducible repeat (first | apply Kd.R_alloc | apply Kd.R_drewN | apply Kd.R_drew)); exact HO_8.out) hb); have n1_ := Aside0.mk (Kd.R_below (by (with_reducible repeat (first | apply Kd.R_alloc | apply Kd.R_drewN | apply Kd.R_drew)); exact HO_9.out) hb); have n2_ := Aside0.mk (below_step (by repeat (first | (with_reducible first | exact HB.out | apply below_alloc | apply pw_below_drewN | apply below_drew1) | exact HB.out)) hb); have n3_ := Aside0.mk (hbox); have n4_ := Aside0.mk ((by rw [hg]; exact (below_size (by repeat (first | (with_reducible first | exact HB.out | apply below_alloc | apply pw_below_drewN | apply below_drew1) | exact HB.out))) : w.heap.size ≤ gb436)); have n5_ := Aside0.mk ((by rw [hg]; exact (below_size (by repeat (first | (with_reducible first | exact HB.out | apply below_alloc | apply pw_below_drewN | apply below_drew1) | exact HB.out))) : w.heap.size ≤ gb436)); clear HO_8; clear HO_9; clear HB; have HO_8 := n0_; have HO_9 := n1_; have HB := n2_; have BK436 := n3_; have GW436 := n4_; have GE436 := n5_; clear n0_ n1_ n2_ n3_ n4_ n5_; clear hb hbox hg; have hcz30_0 : w29.cell? ⟨gb436, 0, none⟩ = some (.int .i64 0) := (blk_cell BK436.out 0).trans rfl; have hcz30_1 : w29.cell? ⟨gb436, 1, none⟩ = some (.int .i64 0) := (blk_cell BK436.out 1).trans rfl; have hcz30_2 : w29.cell? ⟨gb436, 2, none⟩ = some (.int .i64 0) := (blk_cell BK436.out 2).trans rfl; have hfz30_0 := blk_frozen BK436.out 0; have hfz30_1 := blk_frozen BK436.out 1; have hfz30_2 := blk_frozen BK436.out 2))
           have n0_ : Aside0 (Kd.R k58 58 (((w29.setCell ⟨gb436, 0, none⟩ (.int .i64 ((rd_T61 l1 x38_2).f0))).setCell ⟨gb436, 1, none⟩ (.int .i64 ((rd_T61 l1 x38_2).f1))).setCell ⟨gb436, 2, none⟩ (.int .i64 ((rd_T61 l1 x38_2).f2))) w.heap.size (fun k_ => some k_ ≠ (u9 : Value).ownBlock) v429 t428) := ⟨by (with_reducible repeat (first | apply Kd.R_alloc | apply Kd.R_drewN | apply Kd.R_drew)); exact Kd.R_mono (Kd.R_far (p := ⟨gb436, 2, none⟩) (Kd.R_far (p := ⟨gb436, 1, none⟩) (Kd.R_far (p := ⟨gb436, 0, none⟩) (Kd.R_types HO_8.out BK436.out (by decide)) (fun _ hk => hk.2) (.int .i64 ((rd_T61 l1 x38_2).f0))) (fun _ hk => hk.2) (.int .i64 ((rd_T61 l1 x38_2).f1))) (fun _ hk => hk.2) (.int .i64 ((rd_T61 l1 x38_2).f2))) (fun _ hk => hk.1)⟩
           have n1_ : Aside0 (Kd.R k58 58 (((w29.setCell ⟨gb436, 0, none⟩ (.int .i64 ((rd_T61 l1 x38_2).f0))).setCell ⟨gb436, 1, none⟩ (.int .i64 ((rd_T61 l1 x38_2).f1))).setCell ⟨gb436, 2, none⟩ (.int .i64 ((rd_T61 l1 x38_2).f2))) w.heap.size (fun k_ => some k_ ≠ (v429 : Value).ownBlock) u9 x9_2) := ⟨by (with_reducible repeat (first | apply Kd.R_alloc | apply Kd.R_drewN | apply Kd.R_drew)); exact Kd.R_mono (Kd.R_far (p := ⟨gb436, 2, none⟩) (Kd.R_far (p := ⟨gb436, 1, none⟩) (Kd.R_far (p := ⟨gb436, 0, none⟩) (Kd.R_types HO_9.out BK436.out (by decide)) (fun _ hk => hk.2) (.int .i64 ((rd_T61 l1 x38_2).f0))) (fun _ hk => hk.2) (.int .i64 ((rd_T61 l1 x38_2).f1))) (fun _ hk => hk.2) (.int .i64 ((rd_T61 l1 x38_2).f2))) (fun _ hk => hk.1)⟩
           have n2_ : Aside0 ((((w29.setCell ⟨gb436, 0, none⟩ (.int .i64 ((rd_T61 l1 x38_2).f0))).setCell ⟨gb436, 1, none⟩ (.int .i64 ((rd_T61 l1 x38_2).f1))).setCell ⟨gb436, 2, none⟩ (.int .i64 ((rd_T61 l1 x38_2).f2))).heap[gb436]? = some (.cells #[.int .i64 ((rd_T61 l1 x38_2).f0), .int .i64 ((rd_T61 l1 x38_2).f1), .int .i64 ((rd_T61 l1 x38_2).f2)] 61 (0, 0))) := ⟨by (with_reducible repeat (first | refine blk_drewN ?_ _ | refine blk_drew ?_ | refine blk_alloc ?_ _)); refine blk_put (cs := #[.int .i64 ((rd_T61 l1 x38_2).f0), .int .i64 ((rd_T61 l1 x38_2).f1), .int .i64 0]) ?_ 2 _ rfl; (with_reducible repeat (first | refine blk_drewN ?_ _ | refine blk_drew ?_ | refine blk_alloc ?_ _)); refine blk_put (cs := #[.int .i64 ((rd_T61 l1 x38_2).f0), .int .i64 0, .int .i64 0]) ?_ 1 _ rfl; (with_reducible repeat (first | refine blk_drewN ?_ _ | refine blk_drew ?_ | refine blk_alloc ?_ _)); refine blk_put (cs := #[.int .i64 0, .int .i64 0, .int .i64 0]) ?_ 0 _ rfl; (with_reducible repeat (first | refine blk_drewN ?_ _ | refine blk_drew ?_ | refine blk_alloc ?_ _)); exact BK436.out⟩
           have n3_ : Aside0 (Below w.heap.size w (((w29.setCell ⟨gb436, 0, none⟩ (.int .i64 ((rd_T61 l1 x38_2).f0))).setCell ⟨gb436, 1, none⟩ (.int .i64 ((rd_T61 l1 x38_2).f1))).setCell ⟨gb436, 2, none⟩ (.int .i64 ((rd_T61 l1 x38_2).f2)))) := ⟨by repeat (first | (with_reducible first | exact HB.out | apply below_alloc | apply pw_below_drewN | apply below_drew1 | refine below_set ?_ GE436.out) | exact HB.out)⟩
           (try clear HO_8)
           (try clear HO_9)
           (try clear BK436)
           (try clear HB)
           generalize (((w29.setCell ⟨gb436, 0, none⟩ (.int .i64 ((rd_T61 l1 x38_2).f0))).setCell ⟨gb436, 1, none⟩ (.int .i64 ((rd_T61 l1 x38_2).f1))).setCell ⟨gb436, 2, none⟩ (.int .i64 ((rd_T61 l1 x38_2).f2))) = w31 at n0_ n1_ n2_ n3_ ⊢
           have HO_8 := n0_
           have HO_9 := n1_
           have BK436 := n2_
           have HB := n3_
           clear n0_ n1_ n2_ n3_
           have n0_ := Aside0.mk (Kd.R_drew HO_8.out)
           have n1_ := Aside0.mk (Kd.R_drew HO_9.out)
           have n2_ := Aside0.mk (blk_drew BK436.out)
           have n3_ := Aside0.mk (below_drew1 HB.out)
           clear HO_8
           clear HO_9
           clear BK436
           clear HB
           have HO_8 := n0_
           have HO_9 := n1_
           have BK436 := n2_
           have HB := n3_
           clear n0_ n1_ n2_ n3_
           obtain ⟨Ao33, co33, eo33⟩ := Kd.R_slice HO_9.out
           (first | subst eo33 | (injection eo33 with f1_ f2_ f3_; have f4_ := f1_.symm; have f5_ := f3_.symm; clear f1_ f2_ f3_; subst f4_; subst f5_))
           refine start_ (n := 10) (S := fun w' => w'.cell? ⟨gb436, 0, none⟩ = some (.int .i64 ((rd_T61 l1 x38_2).f0)) ∧ w'.cell? ⟨gb436, 1, none⟩ = some (.int .i64 ((rd_T61 l1 x38_2).f1)) ∧ w'.cell? ⟨gb436, 2, none⟩ = some (.int .i64 ((rd_T61 l1 x38_2).f2))) (ds := []) #[false, false, false, false, false, false, false, false, false, false] (by kernel_rfl) rfl rfl ⟨(blk_cell BK436.out 0).trans rfl, (blk_cell BK436.out 1).trans rfl, (blk_cell BK436.out 2).trans rfl⟩ (fun hHeld => ?_); refine with_tabW impl_BalsPost.tab10 impl_BalsPost.bits10 (fun HT_ HW_ => ?_)
           generalize w31.drew = w32 at HO_8 HO_9 BK436 HB hHeld ⊢
           refine pure_ (i := 0) (N := some 42) (v := ?_) (a' := ?_) #[true, false, false, false, false, false, false, false, false, false] rfl rfl (any_of HT_.out (by kernel_rfl)) (fun _ _ _ h => h) (Or.inl ⟨by rfl, ?_⟩) ?_ ?_
           rotate_left
           ·
            intro w'
            go_simp
            with_reducible rfl
           rotate_left
           ·
            simp only [Act.put, List.setIfInBounds_toArray, List.set_cons_zero, List.set_cons_succ, i64_w, i32_w]
            rfl
           refine pure_ (i := 1) (N := some 43) (v := ?_) (a' := ?_) #[true, true, false, false, false, false, false, false, false, false] rfl rfl (any_of HT_.out (by kernel_rfl)) (fun _ _ _ h => h) (Or.inl ⟨by rfl, ?_⟩) ?_ ?_
           rotate_left
           ·
            intro w'
            go_simp
            with_reducible rfl
           rotate_left
           ·
            simp only [Act.put, List.setIfInBounds_toArray, List.set_cons_zero, List.set_cons_succ, i64_w, i32_w]
            rfl
           refine pure_ (i := 3) (N := some 45) (v := ?_) (a' := ?_) #[true, true, false, true, false, false, false, false, false, false] rfl rfl (any_of HT_.out (by kernel_rfl)) (fun _ _ _ h => h) (Or.inl ⟨by rfl, ?_⟩) ?_ ?_
           rotate_left
           ·
            intro w'
            go_simp
            with_reducible rfl
           rotate_left
           ·
            simp only [Act.put, List.setIfInBounds_toArray, List.set_cons_zero, List.set_cons_succ, i64_w, i32_w]
            rfl
           refine pure_ (i := 6) (N := some 48) (v := ?_) (a' := ?_) #[true, true, false, true, false, false, true, false, false, false] rfl rfl (any_of HT_.out (by kernel_rfl)) (fun _ _ _ h => h) (Or.inl ⟨by rfl, ?_⟩) ?_ ?_
           rotate_left
           ·
            intro w'
            go_simp
            with_reducible rfl
           rotate_left
           ·
            simp only [Act.put, List.setIfInBounds_toArray, List.set_cons_zero, List.set_cons_succ, i64_w, i32_w]
            rfl
           refine take_ (i := 2) (N := some 44) (v := ?_) (a' := ?_) #[true, true, true, true, false, false, true, false, false, false] rfl rfl (take_ofW HT_.out HW_.out (by kernel_rfl)) (fun _ _ _ h => h) (Or.inl ⟨by rfl, ?_⟩) hHeld ?_ ?_
           rotate_left
           ·
            rintro w' ⟨s0, s1, s2⟩
            go_simp
            with_reducible rfl
           rotate_left
           ·
            simp only [Act.put, List.setIfInBounds_toArray, List.set_cons_zero, List.set_cons_succ, i64_w, i32_w]
            rfl
           refine take_ (i := 4) (N := some 46) (v := ?_) (a' := ?_) #[true, true, true, true, true, false, true, false, false, false] rfl rfl (take_ofW HT_.out HW_.out (by kernel_rfl)) (fun _ _ _ h => h) (Or.inl ⟨by rfl, ?_⟩) hHeld ?_ ?_
           rotate_left
           ·
            rintro w' ⟨s0, s1, s2⟩
            go_simp
            with_reducible rfl
           rotate_left
           ·
            simp only [Act.put, List.setIfInBounds_toArray, List.set_cons_zero, List.set_cons_succ, i64_w, i32_w]
            rfl
           refine take_ (i := 7) (N := some 49) (v := ?_) (a' := ?_) #[true, true, true, true, true, false, true, true, false, false] rfl rfl (take_ofW HT_.out HW_.out (by kernel_rfl)) (fun _ _ _ h => h) (Or.inl ⟨by rfl, ?_⟩) hHeld ?_ ?_
           rotate_left
           ·
            rintro w' ⟨s0, s1, s2⟩
            go_simp
            with_reducible rfl
           rotate_left
           ·
            simp only [Act.put, List.setIfInBounds_toArray, List.set_cons_zero, List.set_cons_succ, i64_w, i32_w]
            rfl
           refine one_ (i := 5) (N := some 47) #[true, true, true, true, true, true, true, true, false, false] rfl rfl (one_of HT_.out (by kernel_rfl)) (by decide) (fun K hK => ?_)
           refine goes_ Try.func54 (by kernel_rfl) rfl #[.slice Ao33 x9_2.length co33, .int .i64 ((rd_T61 l1 x38_2).f0), .int .i64 ((rd_T61 l1 x38_2).f1)] (by rfl) rfl rfl (by (try simp only [List.map_toArray, List.map_cons, List.map_nil]); first | done | rfl | (simp only [List.length_drop, List.length_take]; rfl)) ?_
           with_reducible refine (impl_balOf.calls k2 _ _ x9_2 ((rd_T61 l1 x38_2).f0) ((rd_T61 l1 x38_2).f1) t437 _ ?side1 ?side2 A25.out).mono ?_
           (case side1 => repeat (first | exact (Kd.R_reads' HO_9.out).2.2 | (with_reducible refine Kd.C_alloc ?_ _) | (with_reducible refine Kd.C_drewN ?_ _) | (with_reducible refine Kd.C_drew ?_)))
           (case side2 => exact (Kd.R_reads' HO_9.out).2.1)
           rintro e w34 ⟨rfl, hb⟩
           refine ⟨_, rfl, ?_⟩
           have n0_ := Aside0.mk (Kd.R_below (by (with_reducible repeat (first | apply Kd.R_alloc | apply Kd.R_drewN | apply Kd.R_drew)); exact HO_8.out) hb)
           have n1_ := Aside0.mk (Kd.R_below (by (with_reducible repeat (first | apply Kd.R_alloc | apply Kd.R_drewN | apply Kd.R_drew)); exact HO_9.out) hb)
           have n2_ := Aside0.mk (blk_below (g := gb436) (o := .cells #[.int .i64 ((rd_T61 l1 x38_2).f0), .int .i64 ((rd_T61 l1 x38_2).f1), .int .i64 ((rd_T61 l1 x38_2).f2)] 61 (0, 0)) (by (with_reducible repeat (first | refine blk_drewN ?_ _ | refine blk_drew ?_ | refine blk_alloc ?_ _)); exact BK436.out) hb)
           have n3_ := Aside0.mk (below_step (by repeat (first | (with_reducible first | exact HB.out | apply below_alloc | apply pw_below_drewN | apply below_drew1 | refine below_set ?_ GE436.out) | exact HB.out)) hb)
           clear HO_8
           clear HO_9
           clear BK436
           clear HB
           have HO_8 := n0_
           have HO_9 := n1_
           have BK436 := n2_
           have HB := n3_
           clear n0_ n1_ n2_ n3_
           (try clear hb)
           (try clear hb2)
           (try clear hk)
           (try clear hi)
           refine hK.out _ _ ⟨(blk_cell BK436.out 0).trans rfl, (blk_cell BK436.out 1).trans rfl, (blk_cell BK436.out 2).trans rfl⟩ (fun hHeld => ?_)
           clear hK K
           refine norm_ (a' := ?_) ?_ ?_
           rotate_left
           ·
            show Act.put _ (some 47) _ = _
            simp only [Act.put, List.setIfInBounds_toArray, List.set_cons_zero, List.set_cons_succ, i64_w, i32_w]
            rfl
           refine pure_ (i := 8) (N := some 50) (v := ?_) (a' := ?_) #[true, true, true, true, true, true, true, true, true, false] rfl rfl (any_of HT_.out (by kernel_rfl)) (fun _ _ _ h => h) (Or.inl ⟨by rfl, ?_⟩) ?_ ?_
           rotate_left
           ·
            intro w'
            go_simp
            with_reducible rfl
           rotate_left
           ·
            simp only [Act.put, List.setIfInBounds_toArray, List.set_cons_zero, List.set_cons_succ, i64_w, i32_w]
            rfl
           refine pure_ (i := 9) (N := some 12) (v := ?_) (a' := ?_) #[true, true, true, true, true, true, true, true, true, true] rfl rfl (any_of HT_.out (by kernel_rfl)) (fun _ _ _ h => h) (Or.inl ⟨by rfl, ?_⟩) ?_ ?_
           rotate_left
           ·
            intro w'
            go_simp
            with_reducible rfl
           rotate_left
           ·
            simp only [Act.put, List.setIfInBounds_toArray, List.set_cons_zero, List.set_cons_succ, i64_w, i32_w]
            rfl
           refine done_ (done_of HT_.out (by kernel_rfl)) ?_
           try go_wp2_with (first | ((with_reducible refine gate_callee (f := 46) rfl ?_); refine goesL_ (some 52) rfl rfl Try.func46 (by kernel_rfl) rfl #[.int .i64 (wrap64 (t437 + ((rd_T61 l1 x38_2).f2)))] rfl (by (try simp only [List.map_toArray, List.map_cons, List.map_nil]); first | done | rfl | (simp only [List.length_drop, List.length_take]; rfl)) ?_; (with_reducible refine (impl_AmountOk.calls (wrap64 (t437 + ((rd_T61 l1 x38_2).f2))) true _ A26.out).mono ?_); rintro e w' ⟨rfl, ⟨nd, rfl⟩⟩; refine ⟨_, rfl, ?_⟩; have hcz35_0 : w34.cell? ⟨gb436, 0, none⟩ = some (.int .i64 ((rd_T61 l1 x38_2).f0)) := (blk_cell BK436.out 0).trans rfl; have hcz35_1 : w34.cell? ⟨gb436, 1, none⟩ = some (.int .i64 ((rd_T61 l1 x38_2).f1)) := (blk_cell BK436.out 1).trans rfl; have hcz35_2 : w34.cell? ⟨gb436, 2, none⟩ = some (.int .i64 ((rd_T61 l1 x38_2).f2)) := (blk_cell BK436.out 2).trans rfl; have hfz35_0 := blk_frozen BK436.out 0; have hfz35_1 := blk_frozen BK436.out 1; have hfz35_2 := blk_frozen BK436.out 2) | ((with_reducible refine gate_callee (f := 59) rfl ?_); refine goesL_ (some 61) rfl rfl Try.func59 (by kernel_rfl) rfl #[.slice Ao33 x9_2.length co33, .int .i64 ((rd_T61 l1 x38_2).f0), .int .i64 ((rd_T61 l1 x38_2).f1), .int .i64 (wrap64 (t437 + ((rd_T61 l1 x38_2).f2)))] rfl (by (try simp only [List.map_toArray, List.map_cons, List.map_nil]); first | done | rfl | (simp only [List.length_drop, List.length_take]; rfl)) ?_; (with_reducible refine (impl_withBal.calls k2 _ _ x9_2 ((rd_T61 l1 x38_2).f0) ((rd_T61 l1 x38_2).f1) (wrap64 (t437 + ((rd_T61 l1 x38_2).f2))) t439 _ ?side1 ?side2 A28.out).mono ?_); (case side1 => repeat (first | exact (Kd.R_reads' HO_9.out).2.2 | (with_reducible refine Kd.C_alloc ?_ _) | (with_reducible refine Kd.C_drewN ?_ _) | (with_reducible refine Kd.C_drew ?_))); (case side2 => exact (Kd.R_reads' HO_9.out).2.1); rintro e w36 ⟨v440, rfl, ho0, hb⟩; refine ⟨_, rfl, ?_⟩; have n0_ := Aside0.mk (Kd.R_elder' (by (with_reducible repeat (first | apply Kd.R_alloc | apply Kd.R_drewN | apply Kd.R_drew)); exact HO_8.out) (Kd.R_base ho0) hb); have n1_ := Aside0.mk (Kd.R_elder' (by (with_reducible repeat (first | apply Kd.R_alloc | apply Kd.R_drewN | apply Kd.R_drew)); exact HO_9.out) (Kd.R_base ho0) hb); have n2_ := Aside0.mk (Kd.R_lower (Kd.R_new' (Kd.R_new' ho0 (Kd.R_lt (by (with_reducible repeat (first | apply Kd.R_alloc | apply Kd.R_drewN | apply Kd.R_drew)); exact HO_8.out))) (Kd.R_lt (by (with_reducible repeat (first | apply Kd.R_alloc | apply Kd.R_drewN | apply Kd.R_drew)); exact HO_9.out))) (below_size (by repeat (first | (with_reducible first | exact HB.out | apply below_alloc | apply pw_below_drewN | apply below_drew1 | refine below_set ?_ GE436.out) | exact HB.out)))); have n3_ := Aside0.mk (blk_below (g := gb436) (o := .cells #[.int .i64 ((rd_T61 l1 x38_2).f0), .int .i64 ((rd_T61 l1 x38_2).f1), .int .i64 ((rd_T61 l1 x38_2).f2)] 61 (0, 0)) (by (with_reducible repeat (first | refine blk_drewN ?_ _ | refine blk_drew ?_ | refine blk_alloc ?_ _)); exact BK436.out) hb); have n4_ := Aside0.mk (below_step (by repeat (first | (with_reducible first | exact HB.out | apply below_alloc | apply pw_below_drewN | apply below_drew1 | refine below_set ?_ GE436.out) | exact HB.out)) hb); clear HO_8; clear HO_9; clear BK436; clear HB; have HO_8 := n0_; have HO_9 := n1_; have HO441 := n2_; have BK436 := n3_; have HB := n4_; clear n0_ n1_ n2_ n3_ n4_; (try clear hb); (try clear hb2); (try clear hk); (try clear hi); (try clear ho0)))
           go_roundg k2
           case measure => have := HJ3.out; have := HK2.out; omega
           case rel => exact ⟨(t439), (wrap64 (x38_2 + 1)), (by first | rfl | (simp; done) | (simp [*]; done)), H', ⟨by have := HJ3.out; have := HK2.out; omega⟩, ⟨by (with_reducible repeat (first | apply Kd.R_alloc | apply Kd.R_drewN | apply Kd.R_drew)); exact Kd.R_mono HO_8.out (fun _ hk => hk.2)⟩, ⟨by (with_reducible repeat (first | apply Kd.R_alloc | apply Kd.R_drewN | apply Kd.R_drew)); exact Kd.R_mono HO441.out (fun _ hk => hk.1.2)⟩, ⟨by repeat (first | (with_reducible first | exact HB.out | apply below_alloc | apply pw_below_drewN | apply below_drew1 | refine below_set ?_ GE436.out) | exact HB.out)⟩⟩
          ·
           replace c27 := Bool.eq_false_iff.mpr c27
           subst c27
           have H1 : (some (t428, 4)) = some (r1, r2) := by rw [if_neg (show ¬ (false = true) by decide)] at H; exact H
           clear H
           have H := H1
           clear H1
           simp only [Option.some.injEq, Prod.mk.injEq] at H
           obtain ⟨rfl, rfl⟩ := H
           have p435 : 0 ≤ (x38_2 : Int) := of_decide_eq_true (by first | (with_reducible assumption) | assumption)
           have q435 : x38_2 < (l1.length : Int) := of_decide_eq_true (by first | (with_reducible assumption) | assumption)
           obtain ⟨ad435, e435, hx435_0, hx435_1, hx435_2⟩ := at_T61 HR1.out x38_2 p435 q435
           cases e435
           replace hx435_0 := (HB.out.cell (World.block_lt_of_cell? w _ hx435_0)).trans hx435_0
           replace hx435_1 := (HB.out.cell (World.block_lt_of_cell? w _ hx435_1)).trans hx435_1
           replace hx435_2 := (HB.out.cell (World.block_lt_of_cell? w _ hx435_2)).trans hx435_2
           replace p435 := eq_true p435
           replace q435 := eq_true q435
           try go_wp2_with (first | ((with_reducible refine gate_dst (N := 11) rfl ?_); (try (refine gate_guard (by rfl) ?_; dsimp only)); refine box_event ?hg (N := 11) ?hd (cs := #[.int .i64 0, .int .i64 0, .int .i64 0]) (t := 61) ?hr ?_; (case hd => rfl); (case hg => rfl); (case hr => first | (go_simp; done) | (go_simp; rfl)); intro gb436 hg w37 hbox hb; have n0_ := Aside0.mk (Kd.R_below (by (with_reducible repeat (first | apply Kd.R_alloc | apply Kd.R_drewN | apply Kd.R_drew)); exact HO_8.out) hb); have n1_ := Aside0.mk (Kd.R_below (by (with_reducible repeat (first | apply Kd.R_alloc | apply Kd.R_drewN | apply Kd.R_drew)); exact HO_9.out) hb); have n2_ := Aside0.mk (below_step (by repeat (first | (with_reducible first | exact HB.out | apply below_alloc | apply pw_below_drewN | apply below_drew1) | exact HB.out)) hb); have n3_ := Aside0.mk (hbox); have n4_ := Aside0.mk ((by rw [hg]; exact (below_size (by repeat (first | (with_reducible first | exact HB.out | apply below_alloc | apply pw_below_drewN | apply below_drew1) | exact HB.out))) : w.heap.size ≤ gb436)); have n5_ := Aside0.mk ((by rw [hg]; exact (below_size (by repeat (first | (with_reducible first | exact HB.out | apply below_alloc | apply pw_below_drewN | apply below_drew1) | exact HB.out))) : w.heap.size ≤ gb436)); clear HO_8; clear HO_9; clear HB; have HO_8 := n0_; have HO_9 := n1_; have HB := n2_; have BK436 := n3_; have GW436 := n4_; have GE436 := n5_; clear n0_ n1_ n2_ n3_ n4_ n5_; clear hb hbox hg; have hcz38_0 : w37.cell? ⟨gb436, 0, none⟩ = some (.int .i64 0) := (blk_cell BK436.out 0).trans rfl; have hcz38_1 : w37.cell? ⟨gb436, 1, none⟩ = some (.int .i64 0) := (blk_cell BK436.out 1).trans rfl; have hcz38_2 : w37.cell? ⟨gb436, 2, none⟩ = some (.int .i64 0) := (blk_cell BK436.out 2).trans rfl; have hfz38_0 := blk_frozen BK436.out 0; have hfz38_1 := blk_frozen BK436.out 1; have hfz38_2 := blk_frozen BK436.out 2))
           have n0_ : Aside0 (Kd.R k58 58 (((w37.setCell ⟨gb436, 0, none⟩ (.int .i64 ((rd_T61 l1 x38_2).f0))).setCell ⟨gb436, 1, none⟩ (.int .i64 ((rd_T61 l1 x38_2).f1))).setCell ⟨gb436, 2, none⟩ (.int .i64 ((rd_T61 l1 x38_2).f2))) w.heap.size (fun k_ => some k_ ≠ (u9 : Value).ownBlock) v429 t428) := ⟨by (with_reducible repeat (first | apply Kd.R_alloc | apply Kd.R_drewN | apply Kd.R_drew)); exact Kd.R_mono (Kd.R_far (p := ⟨gb436, 2, none⟩) (Kd.R_far (p := ⟨gb436, 1, none⟩) (Kd.R_far (p := ⟨gb436, 0, none⟩) (Kd.R_types HO_8.out BK436.out (by decide)) (fun _ hk => hk.2) (.int .i64 ((rd_T61 l1 x38_2).f0))) (fun _ hk => hk.2) (.int .i64 ((rd_T61 l1 x38_2).f1))) (fun _ hk => hk.2) (.int .i64 ((rd_T61 l1 x38_2).f2))) (fun _ hk => hk.1)⟩
           have n1_ : Aside0 (Kd.R k58 58 (((w37.setCell ⟨gb436, 0, none⟩ (.int .i64 ((rd_T61 l1 x38_2).f0))).setCell ⟨gb436, 1, none⟩ (.int .i64 ((rd_T61 l1 x38_2).f1))).setCell ⟨gb436, 2, none⟩ (.int .i64 ((rd_T61 l1 x38_2).f2))) w.heap.size (fun k_ => some k_ ≠ (v429 : Value).ownBlock) u9 x9_2) := ⟨by (with_reducible repeat (first | apply Kd.R_alloc | apply Kd.R_drewN | apply Kd.R_drew)); exact Kd.R_mono (Kd.R_far (p := ⟨gb436, 2, none⟩) (Kd.R_far (p := ⟨gb436, 1, none⟩) (Kd.R_far (p := ⟨gb436, 0, none⟩) (Kd.R_types HO_9.out BK436.out (by decide)) (fun _ hk => hk.2) (.int .i64 ((rd_T61 l1 x38_2).f0))) (fun _ hk => hk.2) (.int .i64 ((rd_T61 l1 x38_2).f1))) (fun _ hk => hk.2) (.int .i64 ((rd_T61 l1 x38_2).f2))) (fun _ hk => hk.1)⟩
           have n2_ : Aside0 ((((w37.setCell ⟨gb436, 0, none⟩ (.int .i64 ((rd_T61 l1 x38_2).f0))).setCell ⟨gb436, 1, none⟩ (.int .i64 ((rd_T61 l1 x38_2).f1))).setCell ⟨gb436, 2, none⟩ (.int .i64 ((rd_T61 l1 x38_2).f2))).heap[gb436]? = some (.cells #[.int .i64 ((rd_T61 l1 x38_2).f0), .int .i64 ((rd_T61 l1 x38_2).f1), .int .i64 ((rd_T61 l1 x38_2).f2)] 61 (0, 0))) := ⟨by (with_reducible repeat (first | refine blk_drewN ?_ _ | refine blk_drew ?_ | refine blk_alloc ?_ _)); refine blk_put (cs := #[.int .i64 ((rd_T61 l1 x38_2).f0), .int .i64 ((rd_T61 l1 x38_2).f1), .int .i64 0]) ?_ 2 _ rfl; (with_reducible repeat (first | refine blk_drewN ?_ _ | refine blk_drew ?_ | refine blk_alloc ?_ _)); refine blk_put (cs := #[.int .i64 ((rd_T61 l1 x38_2).f0), .int .i64 0, .int .i64 0]) ?_ 1 _ rfl; (with_reducible repeat (first | refine blk_drewN ?_ _ | refine blk_drew ?_ | refine blk_alloc ?_ _)); refine blk_put (cs := #[.int .i64 0, .int .i64 0, .int .i64 0]) ?_ 0 _ rfl; (with_reducible repeat (first | refine blk_drewN ?_ _ | refine blk_drew ?_ | refine blk_alloc ?_ _)); exact BK436.out⟩
           have n3_ : Aside0 (Below w.heap.size w (((w37.setCell ⟨gb436, 0, none⟩ (.int .i64 ((rd_T61 l1 x38_2).f0))).setCell ⟨gb436, 1, none⟩ (.int .i64 ((rd_T61 l1 x38_2).f1))).setCell ⟨gb436, 2, none⟩ (.int .i64 ((rd_T61 l1 x38_2).f2)))) := ⟨by repeat (first | (with_reducible first | exact HB.out | apply below_alloc | apply pw_below_drewN | apply below_drew1 | refine below_set ?_ GE436.out) | exact HB.out)⟩
           (try clear HO_8)
           (try clear HO_9)
           (try clear BK436)
           (try clear HB)
           generalize (((w37.setCell ⟨gb436, 0, none⟩ (.int .i64 ((rd_T61 l1 x38_2).f0))).setCell ⟨gb436, 1, none⟩ (.int .i64 ((rd_T61 l1 x38_2).f1))).setCell ⟨gb436, 2, none⟩ (.int .i64 ((rd_T61 l1 x38_2).f2))) = w39 at n0_ n1_ n2_ n3_ ⊢
           have HO_8 := n0_
           have HO_9 := n1_
           have BK436 := n2_
           have HB := n3_
           clear n0_ n1_ n2_ n3_
           have n0_ := Aside0.mk (Kd.R_drew HO_8.out)
           have n1_ := Aside0.mk (Kd.R_drew HO_9.out)
           have n2_ := Aside0.mk (blk_drew BK436.out)
           have n3_ := Aside0.mk (below_drew1 HB.out)
           clear HO_8
           clear HO_9
           clear BK436
           clear HB
           have HO_8 := n0_
           have HO_9 := n1_
           have BK436 := n2_
           have HB := n3_
           clear n0_ n1_ n2_ n3_
           obtain ⟨Ao41, co41, eo41⟩ := Kd.R_slice HO_9.out
           (first | subst eo41 | (injection eo41 with f1_ f2_ f3_; have f4_ := f1_.symm; have f5_ := f3_.symm; clear f1_ f2_ f3_; subst f4_; subst f5_))
           refine start_ (n := 10) (S := fun w' => w'.cell? ⟨gb436, 0, none⟩ = some (.int .i64 ((rd_T61 l1 x38_2).f0)) ∧ w'.cell? ⟨gb436, 1, none⟩ = some (.int .i64 ((rd_T61 l1 x38_2).f1)) ∧ w'.cell? ⟨gb436, 2, none⟩ = some (.int .i64 ((rd_T61 l1 x38_2).f2))) (ds := []) #[false, false, false, false, false, false, false, false, false, false] (by kernel_rfl) rfl rfl ⟨(blk_cell BK436.out 0).trans rfl, (blk_cell BK436.out 1).trans rfl, (blk_cell BK436.out 2).trans rfl⟩ (fun hHeld => ?_); refine with_tabW impl_BalsPost.tab10 impl_BalsPost.bits10 (fun HT_ HW_ => ?_)
           generalize w39.drew = w40 at HO_8 HO_9 BK436 HB hHeld ⊢
           refine pure_ (i := 0) (N := some 42) (v := ?_) (a' := ?_) #[true, false, false, false, false, false, false, false, false, false] rfl rfl (any_of HT_.out (by kernel_rfl)) (fun _ _ _ h => h) (Or.inl ⟨by rfl, ?_⟩) ?_ ?_
           rotate_left
           ·
            intro w'
            go_simp
            with_reducible rfl
           rotate_left
           ·
            simp only [Act.put, List.setIfInBounds_toArray, List.set_cons_zero, List.set_cons_succ, i64_w, i32_w]
            rfl
           refine pure_ (i := 1) (N := some 43) (v := ?_) (a' := ?_) #[true, true, false, false, false, false, false, false, false, false] rfl rfl (any_of HT_.out (by kernel_rfl)) (fun _ _ _ h => h) (Or.inl ⟨by rfl, ?_⟩) ?_ ?_
           rotate_left
           ·
            intro w'
            go_simp
            with_reducible rfl
           rotate_left
           ·
            simp only [Act.put, List.setIfInBounds_toArray, List.set_cons_zero, List.set_cons_succ, i64_w, i32_w]
            rfl
           refine pure_ (i := 3) (N := some 45) (v := ?_) (a' := ?_) #[true, true, false, true, false, false, false, false, false, false] rfl rfl (any_of HT_.out (by kernel_rfl)) (fun _ _ _ h => h) (Or.inl ⟨by rfl, ?_⟩) ?_ ?_
           rotate_left
           ·
            intro w'
            go_simp
            with_reducible rfl
           rotate_left
           ·
            simp only [Act.put, List.setIfInBounds_toArray, List.set_cons_zero, List.set_cons_succ, i64_w, i32_w]
            rfl
           refine pure_ (i := 6) (N := some 48) (v := ?_) (a' := ?_) #[true, true, false, true, false, false, true, false, false, false] rfl rfl (any_of HT_.out (by kernel_rfl)) (fun _ _ _ h => h) (Or.inl ⟨by rfl, ?_⟩) ?_ ?_
           rotate_left
           ·
            intro w'
            go_simp
            with_reducible rfl
           rotate_left
           ·
            simp only [Act.put, List.setIfInBounds_toArray, List.set_cons_zero, List.set_cons_succ, i64_w, i32_w]
            rfl
           refine take_ (i := 2) (N := some 44) (v := ?_) (a' := ?_) #[true, true, true, true, false, false, true, false, false, false] rfl rfl (take_ofW HT_.out HW_.out (by kernel_rfl)) (fun _ _ _ h => h) (Or.inl ⟨by rfl, ?_⟩) hHeld ?_ ?_
           rotate_left
           ·
            rintro w' ⟨s0, s1, s2⟩
            go_simp
            with_reducible rfl
           rotate_left
           ·
            simp only [Act.put, List.setIfInBounds_toArray, List.set_cons_zero, List.set_cons_succ, i64_w, i32_w]
            rfl
           refine take_ (i := 4) (N := some 46) (v := ?_) (a' := ?_) #[true, true, true, true, true, false, true, false, false, false] rfl rfl (take_ofW HT_.out HW_.out (by kernel_rfl)) (fun _ _ _ h => h) (Or.inl ⟨by rfl, ?_⟩) hHeld ?_ ?_
           rotate_left
           ·
            rintro w' ⟨s0, s1, s2⟩
            go_simp
            with_reducible rfl
           rotate_left
           ·
            simp only [Act.put, List.setIfInBounds_toArray, List.set_cons_zero, List.set_cons_succ, i64_w, i32_w]
            rfl
           refine take_ (i := 7) (N := some 49) (v := ?_) (a' := ?_) #[true, true, true, true, true, false, true, true, false, false] rfl rfl (take_ofW HT_.out HW_.out (by kernel_rfl)) (fun _ _ _ h => h) (Or.inl ⟨by rfl, ?_⟩) hHeld ?_ ?_
           rotate_left
           ·
            rintro w' ⟨s0, s1, s2⟩
            go_simp
            with_reducible rfl
           rotate_left
           ·
            simp only [Act.put, List.setIfInBounds_toArray, List.set_cons_zero, List.set_cons_succ, i64_w, i32_w]
            rfl
           refine one_ (i := 5) (N := some 47) #[true, true, true, true, true, true, true, true, false, false] rfl rfl (one_of HT_.out (by kernel_rfl)) (by decide) (fun K hK => ?_)
           refine goes_ Try.func54 (by kernel_rfl) rfl #[.slice Ao41 x9_2.length co41, .int .i64 ((rd_T61 l1 x38_2).f0), .int .i64 ((rd_T61 l1 x38_2).f1)] (by rfl) rfl rfl (by (try simp only [List.map_toArray, List.map_cons, List.map_nil]); first | done | rfl | (simp only [List.length_drop, List.length_take]; rfl)) ?_
           with_reducible refine (impl_balOf.calls k2 _ _ x9_2 ((rd_T61 l1 x38_2).f0) ((rd_T61 l1 x38_2).f1) t437 _ ?side1 ?side2 A25.out).mono ?_
           (case side1 => repeat (first | exact (Kd.R_reads' HO_9.out).2.2 | (with_reducible refine Kd.C_alloc ?_ _) | (with_reducible refine Kd.C_drewN ?_ _) | (with_reducible refine Kd.C_drew ?_)))
           (case side2 => exact (Kd.R_reads' HO_9.out).2.1)
           rintro e w42 ⟨rfl, hb⟩
           refine ⟨_, rfl, ?_⟩
           have n0_ := Aside0.mk (Kd.R_below (by (with_reducible repeat (first | apply Kd.R_alloc | apply Kd.R_drewN | apply Kd.R_drew)); exact HO_8.out) hb)
           have n1_ := Aside0.mk (Kd.R_below (by (with_reducible repeat (first | apply Kd.R_alloc | apply Kd.R_drewN | apply Kd.R_drew)); exact HO_9.out) hb)
           have n2_ := Aside0.mk (blk_below (g := gb436) (o := .cells #[.int .i64 ((rd_T61 l1 x38_2).f0), .int .i64 ((rd_T61 l1 x38_2).f1), .int .i64 ((rd_T61 l1 x38_2).f2)] 61 (0, 0)) (by (with_reducible repeat (first | refine blk_drewN ?_ _ | refine blk_drew ?_ | refine blk_alloc ?_ _)); exact BK436.out) hb)
           have n3_ := Aside0.mk (below_step (by repeat (first | (with_reducible first | exact HB.out | apply below_alloc | apply pw_below_drewN | apply below_drew1 | refine below_set ?_ GE436.out) | exact HB.out)) hb)
           clear HO_8
           clear HO_9
           clear BK436
           clear HB
           have HO_8 := n0_
           have HO_9 := n1_
           have BK436 := n2_
           have HB := n3_
           clear n0_ n1_ n2_ n3_
           (try clear hb)
           (try clear hb2)
           (try clear hk)
           (try clear hi)
           refine hK.out _ _ ⟨(blk_cell BK436.out 0).trans rfl, (blk_cell BK436.out 1).trans rfl, (blk_cell BK436.out 2).trans rfl⟩ (fun hHeld => ?_)
           clear hK K
           refine norm_ (a' := ?_) ?_ ?_
           rotate_left
           ·
            show Act.put _ (some 47) _ = _
            simp only [Act.put, List.setIfInBounds_toArray, List.set_cons_zero, List.set_cons_succ, i64_w, i32_w]
            rfl
           refine pure_ (i := 8) (N := some 50) (v := ?_) (a' := ?_) #[true, true, true, true, true, true, true, true, true, false] rfl rfl (any_of HT_.out (by kernel_rfl)) (fun _ _ _ h => h) (Or.inl ⟨by rfl, ?_⟩) ?_ ?_
           rotate_left
           ·
            intro w'
            go_simp
            with_reducible rfl
           rotate_left
           ·
            simp only [Act.put, List.setIfInBounds_toArray, List.set_cons_zero, List.set_cons_succ, i64_w, i32_w]
            rfl
           refine pure_ (i := 9) (N := some 12) (v := ?_) (a' := ?_) #[true, true, true, true, true, true, true, true, true, true] rfl rfl (any_of HT_.out (by kernel_rfl)) (fun _ _ _ h => h) (Or.inl ⟨by rfl, ?_⟩) ?_ ?_
           rotate_left
           ·
            intro w'
            go_simp
            with_reducible rfl
           rotate_left
           ·
            simp only [Act.put, List.setIfInBounds_toArray, List.set_cons_zero, List.set_cons_succ, i64_w, i32_w]
            rfl
           refine done_ (done_of HT_.out (by kernel_rfl)) ?_
           try go_wp2_with (first | ((with_reducible refine gate_callee (f := 46) rfl ?_); refine goesL_ (some 52) rfl rfl Try.func46 (by kernel_rfl) rfl #[.int .i64 (wrap64 (t437 + ((rd_T61 l1 x38_2).f2)))] rfl (by (try simp only [List.map_toArray, List.map_cons, List.map_nil]); first | done | rfl | (simp only [List.length_drop, List.length_take]; rfl)) ?_; (with_reducible refine (impl_AmountOk.calls (wrap64 (t437 + ((rd_T61 l1 x38_2).f2))) false _ A26.out).mono ?_); rintro e w' ⟨rfl, ⟨nd, rfl⟩⟩; refine ⟨_, rfl, ?_⟩))
           go_ret2
           exact ⟨_, by first | rfl | (simp [errW_none, errW_some] <;> rfl) | (simp [*, errW_none, errW_some] <;> rfl), by (with_reducible repeat (first | apply Kd.R_alloc | apply Kd.R_drewN | apply Kd.R_drew)); exact Kd.R_mono HO_8.out (fun _ hk => trivial), by repeat (first | (with_reducible first | exact HB.out | apply below_alloc | apply pw_below_drewN | apply below_drew1 | refine below_set ?_ GE436.out) | exact HB.out)⟩
         ·
          rw [if_neg c24] at H
          exact absurd H (by simp)
        ·
         rw [if_neg c23] at H
         exact absurd H (by simp)
       ·
        rw [if_neg c22] at H
        have c22b0 : decide (x38_2 < (l1.length : Int)) = false := decide_eq_false c22
        clear c22
        have H' := Aside0.mk H
        clear H
        go_wp2
        go_loopg [65] k2 (fun kq v65 w' => ∃ (x65_3 : Int), v65 = .int .i64 x65_3 ∧ Aside0 (impl_BalsPost.l1 kq l2 t428 x9_2 l1 (l1.length : Int) x65_3 = some (r1, r2)) ∧ Aside0 (kq ≤ k2) ∧ Aside0 (Kd.R k58 58 w' w.heap.size (fun k_ => some k_ ≠ (u9 : Value).ownBlock) v429 t428) ∧ Aside0 (Kd.R k58 58 w' w.heap.size (fun k_ => some k_ ≠ (v429 : Value).ownBlock) u9 x9_2) ∧ Aside0 (Below w.heap.size w w'))
        case atStart => exact ⟨(0), (by first | rfl | (simp; done) | (simp [*]; done)), H', ⟨Nat.le_refl _⟩, ⟨by (with_reducible repeat (first | apply Kd.R_alloc | apply Kd.R_drewN | apply Kd.R_drew)); exact HO_8.out⟩, ⟨by (with_reducible repeat (first | apply Kd.R_alloc | apply Kd.R_drewN | apply Kd.R_drew)); exact HO_9.out⟩, ⟨by repeat (first | (with_reducible first | exact HB.out | apply below_alloc | apply pw_below_drewN | apply below_drew1) | exact HB.out)⟩⟩
        case round =>
         clear H'
         try clear c1
         try clear c2
         try clear p2
         try clear c3
         try clear c4
         try clear p4
         try clear q4
         try clear hx4
         try clear c5
         try clear c6
         try clear p6
         try clear c8
         try clear c14
         try clear c15
         try clear c17
         try clear c20
         try clear c22
         try clear c22b0
         try clear c23
         try clear c23b0
         try clear c24
         try clear c24b0
         try clear c27
         try clear c32
         try clear hcz30_0
         try clear hcz30_1
         try clear hcz30_2
         try clear hcz35_0
         try clear hcz35_1
         try clear hcz35_2
         try clear hcz38_0
         try clear hcz38_1
         try clear hcz38_2
         try clear hfz30_0
         try clear hfz30_1
         try clear hfz30_2
         try clear hfz35_0
         try clear hfz35_1
         try clear hfz35_2
         try clear hfz38_0
         try clear hfz38_1
         try clear hfz38_2
         try clear hx435_0
         try clear hx435_1
         try clear hx435_2
         try clear p2
         try clear p435
         try clear q435
         obtain ⟨x65_3, rfl, HA, HK3, HO_8, HO_9, HB⟩ := hrel
         cases gk with
         | zero => exact absurd HA.out (by simp [impl_BalsPost.l1])
         | succ k3 =>
          have H := HA.out
          clear HA
          simp only [impl_BalsPost.l1] at H
          by_cases c43 : x65_3 < (l1.length : Int)
          ·
           rw [if_pos c43] at H
           have c43b0 : decide (x65_3 < (l1.length : Int)) = true := decide_eq_true c43
           clear c43
           by_cases c44 : 0 ≤ x65_3
           ·
            rw [if_pos c44] at H
            have c44b0 : decide (0 ≤ x65_3) = true := decide_eq_true c44
            clear c44
            by_cases c45 : x65_3 < (l1.length : Int)
            ·
             rw [if_pos c45] at H
             have c45b0 : decide (x65_3 < (l1.length : Int)) = true := decide_eq_true c45
             clear c45
             replace H := Option.bind_eq_some_iff.mp H
             obtain ⟨t444, A460, H⟩ := H
             replace H : (if t444 = true then (impl_BalsPost.l1 k3 l2 t428 x9_2 l1 (l1.length : Int) (wrap64 (x65_3 + 1))) else ((impl_balOf.f k3 x9_2 ((rd_T61 l1 x65_3).f0) ((rd_T61 l1 x65_3).f1)).bind fun t445 => (if t445 < 0 then (some (t428, 3)) else (impl_BalsPost.l1 k3 l2 t428 x9_2 l1 (l1.length : Int) (wrap64 (x65_3 + 1)))))) = some (r1, r2) := H
             have A46 := Aside0.mk A460
             clear A460
             by_cases c47 : t444 = true
             ·
              subst c47
              have H1 : (impl_BalsPost.l1 k3 l2 t428 x9_2 l1 (l1.length : Int) (wrap64 (x65_3 + 1))) = some (r1, r2) := by rw [if_pos rfl] at H; exact H
              clear H
              have H := H1
              clear H1
              have H' := Aside0.mk H
              clear H
              have p442 : 0 ≤ (x65_3 : Int) := of_decide_eq_true (by first | (with_reducible assumption) | assumption)
              have q442 : x65_3 < (l1.length : Int) := of_decide_eq_true (by first | (with_reducible assumption) | assumption)
              obtain ⟨ad442, e442, hx442_0, hx442_1, hx442_2⟩ := at_T61 HR1.out x65_3 p442 q442
              cases e442
              replace hx442_0 := (HB.out.cell (World.block_lt_of_cell? w _ hx442_0)).trans hx442_0
              replace hx442_1 := (HB.out.cell (World.block_lt_of_cell? w _ hx442_1)).trans hx442_1
              replace hx442_2 := (HB.out.cell (World.block_lt_of_cell? w _ hx442_2)).trans hx442_2
              replace p442 := eq_true p442
              replace q442 := eq_true q442
              go_wp2_with (first | ((with_reducible refine gate_dst (N := 14) rfl ?_); (try (refine gate_guard (by rfl) ?_; dsimp only)); refine box_event ?hg (N := 14) ?hd (cs := #[.int .i64 0, .int .i64 0, .int .i64 0]) (t := 61) ?hr ?_; (case hd => rfl); (case hg => rfl); (case hr => first | (go_simp; done) | (go_simp; rfl)); intro gb443 hg w48 hbox hb; have n0_ := Aside0.mk (Kd.R_below (by (with_reducible repeat (first | apply Kd.R_alloc | apply Kd.R_drewN | apply Kd.R_drew)); exact HO_8.out) hb); have n1_ := Aside0.mk (Kd.R_below (by (with_reducible repeat (first | apply Kd.R_alloc | apply Kd.R_drewN | apply Kd.R_drew)); exact HO_9.out) hb); have n2_ := Aside0.mk (below_step (by repeat (first | (with_reducible first | exact HB.out | apply below_alloc | apply pw_below_drewN | apply below_drew1) | exact HB.out)) hb); have n3_ := Aside0.mk (hbox); have n4_ := Aside0.mk ((by rw [hg]; exact (below_size (by repeat (first | (with_reducible first | exact HB.out | apply below_alloc | apply pw_below_drewN | apply below_drew1) | exact HB.out))) : w.heap.size ≤ gb443)); have n5_ := Aside0.mk ((by rw [hg]; exact (below_size (by repeat (first | (with_reducible first | exact HB.out | apply below_alloc | apply pw_below_drewN | apply below_drew1) | exact HB.out))) : w.heap.size ≤ gb443)); clear HO_8; clear HO_9; clear HB; have HO_8 := n0_; have HO_9 := n1_; have HB := n2_; have BK443 := n3_; have GW443 := n4_; have GE443 := n5_; clear n0_ n1_ n2_ n3_ n4_ n5_; clear hb hbox hg; have hcz49_0 : w48.cell? ⟨gb443, 0, none⟩ = some (.int .i64 0) := (blk_cell BK443.out 0).trans rfl; have hcz49_1 : w48.cell? ⟨gb443, 1, none⟩ = some (.int .i64 0) := (blk_cell BK443.out 1).trans rfl; have hcz49_2 : w48.cell? ⟨gb443, 2, none⟩ = some (.int .i64 0) := (blk_cell BK443.out 2).trans rfl; have hfz49_0 := blk_frozen BK443.out 0; have hfz49_1 := blk_frozen BK443.out 1; have hfz49_2 := blk_frozen BK443.out 2) | ((with_reducible refine gate_callee (f := 63) rfl ?_); refine goesL_ (some 72) rfl rfl Try.func63 (by kernel_rfl) rfl #[.slice A2 l2.length c2, .int .i64 ((rd_T61 l1 x65_3).f0)] rfl (by (try simp only [List.map_toArray, List.map_cons, List.map_nil]); first | done | rfl | (simp only [List.length_drop, List.length_take]; rfl)) ?_; (with_reducible refine (slices_Contains_int_int.calls k3 _ _ l2 ((rd_T61 l1 x65_3).f0) true _ ?side1 ?side2 A46.out).mono ?_); (case side1 => exact Kd.C_below HR2.out (by repeat (first | (with_reducible first | exact HB.out | apply below_alloc | apply pw_below_drewN | apply below_drew1 | refine below_set ?_ GE443.out) | exact HB.out))); (case side2 => exact HC2.out); rintro e w' ⟨rfl, ⟨nd, rfl⟩⟩; refine ⟨_, rfl, ?_⟩))
              go_roundg k3
              case measure => have := HJ3.out; have := HK2.out; have := HK3.out; omega
              case rel => exact ⟨(wrap64 (x65_3 + 1)), (by first | rfl | (simp; done) | (simp [*]; done)), H', ⟨by have := HJ3.out; have := HK2.out; have := HK3.out; omega⟩, ⟨by (with_reducible repeat (first | apply Kd.R_alloc | apply Kd.R_drewN | apply Kd.R_drew)); exact Kd.R_mono (Kd.R_far (p := ⟨gb443, 2, none⟩) (Kd.R_far (p := ⟨gb443, 1, none⟩) (Kd.R_far (p := ⟨gb443, 0, none⟩) (Kd.R_types HO_8.out BK443.out (by decide)) (fun _ hk => hk.2) (.int .i64 ((rd_T61 l1 x65_3).f0))) (fun _ hk => hk.2) (.int .i64 ((rd_T61 l1 x65_3).f1))) (fun _ hk => hk.2) (.int .i64 ((rd_T61 l1 x65_3).f2))) (fun _ hk => hk.1)⟩, ⟨by (with_reducible repeat (first | apply Kd.R_alloc | apply Kd.R_drewN | apply Kd.R_drew)); exact Kd.R_mono (Kd.R_far (p := ⟨gb443, 2, none⟩) (Kd.R_far (p := ⟨gb443, 1, none⟩) (Kd.R_far (p := ⟨gb443, 0, none⟩) (Kd.R_types HO_9.out BK443.out (by decide)) (fun _ hk => hk.2) (.int .i64 ((rd_T61 l1 x65_3).f0))) (fun _ hk => hk.2) (.int .i64 ((rd_T61 l1 x65_3).f1))) (fun _ hk => hk.2) (.int .i64 ((rd_T61 l1 x65_3).f2))) (fun _ hk => hk.1)⟩, ⟨by repeat (first | (with_reducible first | exact HB.out | apply below_alloc | apply pw_below_drewN | apply below_drew1 | refine below_set ?_ GE443.out) | exact HB.out)⟩⟩
             ·
              replace c47 := Bool.eq_false_iff.mpr c47
              subst c47
              have H1 : ((impl_balOf.f k3 x9_2 ((rd_T61 l1 x65_3).f0) ((rd_T61 l1 x65_3).f1)).bind fun t445 => (if t445 < 0 then (some (t428, 3)) else (impl_BalsPost.l1 k3 l2 t428 x9_2 l1 (l1.length : Int) (wrap64 (x65_3 + 1))))) = some (r1, r2) := by rw [if_neg (show ¬ (false = true) by decide)] at H; exact H
              clear H
              have H := H1
              clear H1
              replace H := Option.bind_eq_some_iff.mp H
              obtain ⟨t445, A500, H⟩ := H
              replace H : (if t445 < 0 then (some (t428, 3)) else (impl_BalsPost.l1 k3 l2 t428 x9_2 l1 (l1.length : Int) (wrap64 (x65_3 + 1)))) = some (r1, r2) := H
              have A50 := Aside0.mk A500
              clear A500
              by_cases c51 : t445 < 0
              ·
               rw [if_pos c51] at H
               have c51b0 : decide (t445 < 0) = true := decide_eq_true c51
               clear c51
               simp only [Option.some.injEq, Prod.mk.injEq] at H
               obtain ⟨rfl, rfl⟩ := H
               have p442 : 0 ≤ (x65_3 : Int) := of_decide_eq_true (by first | (with_reducible assumption) | assumption)
               have q442 : x65_3 < (l1.length : Int) := of_decide_eq_true (by first | (with_reducible assumption) | assumption)
               obtain ⟨ad442, e442, hx442_0, hx442_1, hx442_2⟩ := at_T61 HR1.out x65_3 p442 q442
               cases e442
               replace hx442_0 := (HB.out.cell (World.block_lt_of_cell? w _ hx442_0)).trans hx442_0
               replace hx442_1 := (HB.out.cell (World.block_lt_of_cell? w _ hx442_1)).trans hx442_1
               replace hx442_2 := (HB.out.cell (World.block_lt_of_cell? w _ hx442_2)).trans hx442_2
               replace p442 := eq_true p442
               replace q442 := eq_true q442
               go_wp2_with (first | ((with_reducible refine gate_dst (N := 14) rfl ?_); (try (refine gate_guard (by rfl) ?_; dsimp only)); refine box_event ?hg (N := 14) ?hd (cs := #[.int .i64 0, .int .i64 0, .int .i64 0]) (t := 61) ?hr ?_; (case hd => rfl); (case hg => rfl); (case hr => first | (go_simp; done) | (go_simp; rfl)); intro gb443 hg w52 hbox hb; have n0_ := Aside0.mk (Kd.R_below (by (with_reducible repeat (first | apply Kd.R_alloc | apply Kd.R_drewN | apply Kd.R_drew)); exact HO_8.out) hb); have n1_ := Aside0.mk (Kd.R_below (by (with_reducible repeat (first | apply Kd.R_alloc | apply Kd.R_drewN | apply Kd.R_drew)); exact HO_9.out) hb); have n2_ := Aside0.mk (below_step (by repeat (first | (with_reducible first | exact HB.out | apply below_alloc | apply pw_below_drewN | apply below_drew1) | exact HB.out)) hb); have n3_ := Aside0.mk (hbox); have n4_ := Aside0.mk ((by rw [hg]; exact (below_size (by repeat (first | (with_reducible first | exact HB.out | apply below_alloc | apply pw_below_drewN | apply below_drew1) | exact HB.out))) : w.heap.size ≤ gb443)); have n5_ := Aside0.mk ((by rw [hg]; exact (below_size (by repeat (first | (with_reducible first | exact HB.out | apply below_alloc | apply pw_below_drewN | apply below_drew1) | exact HB.out))) : w.heap.size ≤ gb443)); clear HO_8; clear HO_9; clear HB; have HO_8 := n0_; have HO_9 := n1_; have HB := n2_; have BK443 := n3_; have GW443 := n4_; have GE443 := n5_; clear n0_ n1_ n2_ n3_ n4_ n5_; clear hb hbox hg; have hcz53_0 : w52.cell? ⟨gb443, 0, none⟩ = some (.int .i64 0) := (blk_cell BK443.out 0).trans rfl; have hcz53_1 : w52.cell? ⟨gb443, 1, none⟩ = some (.int .i64 0) := (blk_cell BK443.out 1).trans rfl; have hcz53_2 : w52.cell? ⟨gb443, 2, none⟩ = some (.int .i64 0) := (blk_cell BK443.out 2).trans rfl; have hfz53_0 := blk_frozen BK443.out 0; have hfz53_1 := blk_frozen BK443.out 1; have hfz53_2 := blk_frozen BK443.out 2) | ((with_reducible refine gate_callee (f := 63) rfl ?_); refine goesL_ (some 72) rfl rfl Try.func63 (by kernel_rfl) rfl #[.slice A2 l2.length c2, .int .i64 ((rd_T61 l1 x65_3).f0)] rfl (by (try simp only [List.map_toArray, List.map_cons, List.map_nil]); first | done | rfl | (simp only [List.length_drop, List.length_take]; rfl)) ?_; (with_reducible refine (slices_Contains_int_int.calls k3 _ _ l2 ((rd_T61 l1 x65_3).f0) false _ ?side1 ?side2 A46.out).mono ?_); (case side1 => exact Kd.C_below HR2.out (by repeat (first | (with_reducible first | exact HB.out | apply below_alloc | apply pw_below_drewN | apply below_drew1 | refine below_set ?_ GE443.out) | exact HB.out))); (case side2 => exact HC2.out); rintro e w' ⟨rfl, ⟨nd, rfl⟩⟩; refine ⟨_, rfl, ?_⟩; obtain ⟨Ao54, co54, eo54⟩ := Kd.R_slice HO_9.out; subst eo54) | (go_at_call 54; (with_reducible refine (impl_balOf.calls k3 _ _ x9_2 ((rd_T61 l1 x65_3).f0) ((rd_T61 l1 x65_3).f1) t445 _ ?side1 ?side2 A50.out).mono ?_); (case side1 => refine (Kd.R_reads' (e := 58) (base := w.heap.size) (ok := fun k_ => some k_ ≠ (v429 : Value).ownBlock) (n := x9_2.length) (c := co54) ?_).2.2; exact (by (with_reducible repeat (first | apply Kd.R_alloc | apply Kd.R_drewN | apply Kd.R_drew)); exact (Kd.R_mono (Kd.R_far (p := ⟨gb443, 2, none⟩) (Kd.R_far (p := ⟨gb443, 1, none⟩) (Kd.R_far (p := ⟨gb443, 0, none⟩) (Kd.R_types HO_9.out BK443.out (by decide)) (fun _ hk => hk.2) (.int .i64 ((rd_T61 l1 x65_3).f0))) (fun _ hk => hk.2) (.int .i64 ((rd_T61 l1 x65_3).f1))) (fun _ hk => hk.2) (.int .i64 ((rd_T61 l1 x65_3).f2))) (fun _ h_ => h_.1)))); (case side2 => exact (Kd.R_reads' HO_9.out).2.1); rintro e w55 ⟨rfl, hb⟩; have n0_ := Aside0.mk (Kd.R_below (by (with_reducible repeat (first | apply Kd.R_alloc | apply Kd.R_drewN | apply Kd.R_drew)); exact (Kd.R_mono (Kd.R_far (p := ⟨gb443, 2, none⟩) (Kd.R_far (p := ⟨gb443, 1, none⟩) (Kd.R_far (p := ⟨gb443, 0, none⟩) (Kd.R_types HO_8.out BK443.out (by decide)) (fun _ hk => hk.2) (.int .i64 ((rd_T61 l1 x65_3).f0))) (fun _ hk => hk.2) (.int .i64 ((rd_T61 l1 x65_3).f1))) (fun _ hk => hk.2) (.int .i64 ((rd_T61 l1 x65_3).f2))) (fun _ h_ => h_.1))) hb); have n1_ := Aside0.mk (Kd.R_below (by (with_reducible repeat (first | apply Kd.R_alloc | apply Kd.R_drewN | apply Kd.R_drew)); exact (Kd.R_mono (Kd.R_far (p := ⟨gb443, 2, none⟩) (Kd.R_far (p := ⟨gb443, 1, none⟩) (Kd.R_far (p := ⟨gb443, 0, none⟩) (Kd.R_types HO_9.out BK443.out (by decide)) (fun _ hk => hk.2) (.int .i64 ((rd_T61 l1 x65_3).f0))) (fun _ hk => hk.2) (.int .i64 ((rd_T61 l1 x65_3).f1))) (fun _ hk => hk.2) (.int .i64 ((rd_T61 l1 x65_3).f2))) (fun _ h_ => h_.1))) hb); have n2_ := Aside0.mk (blk_below (g := gb443) (o := .cells #[.int .i64 ((rd_T61 l1 x65_3).f0), .int .i64 ((rd_T61 l1 x65_3).f1), .int .i64 ((rd_T61 l1 x65_3).f2)] 61 (0, 0)) (by (with_reducible repeat (first | refine blk_drewN ?_ _ | refine blk_drew ?_ | refine blk_alloc ?_ _)); refine blk_put (cs := #[.int .i64 ((rd_T61 l1 x65_3).f0), .int .i64 ((rd_T61 l1 x65_3).f1), .int .i64 0]) ?_ 2 _ rfl; (with_reducible repeat (first | refine blk_drewN ?_ _ | refine blk_drew ?_ | refine blk_alloc ?_ _)); refine blk_put (cs := #[.int .i64 ((rd_T61 l1 x65_3).f0), .int .i64 0, .int .i64 0]) ?_ 1 _ rfl; (with_reducible repeat (first | refine blk_drewN ?_ _ | refine blk_drew ?_ | refine blk_alloc ?_ _)); refine blk_put (cs := #[.int .i64 0, .int .i64 0, .int .i64 0]) ?_ 0 _ rfl; (with_reducible repeat (first | refine blk_drewN ?_ _ | refine blk_drew ?_ | refine blk_alloc ?_ _)); exact BK443.out) hb); have n3_ := Aside0.mk (below_step (by repeat (first | (with_reducible first | exact HB.out | apply below_alloc | apply pw_below_drewN | apply below_drew1 | refine below_set ?_ GE443.out) | exact HB.out)) hb); clear HO_8; clear HO_9; clear BK443; clear HB; have HO_8 := n0_; have HO_9 := n1_; have BK443 := n2_; have HB := n3_; clear n0_ n1_ n2_ n3_; (try clear hb); (try clear hb2); (try clear hk); (try clear hi)))
               go_ret2
               exact ⟨_, by first | rfl | (simp [errW_none, errW_some] <;> rfl) | (simp [*, errW_none, errW_some] <;> rfl), by (with_reducible repeat (first | apply Kd.R_alloc | apply Kd.R_drewN | apply Kd.R_drew)); exact Kd.R_mono HO_8.out (fun _ hk => trivial), by repeat (first | (with_reducible first | exact HB.out | apply below_alloc | apply pw_below_drewN | apply below_drew1 | refine below_set ?_ GE443.out) | exact HB.out)⟩
              ·
               rw [if_neg c51] at H
               have c51b0 : decide (t445 < 0) = false := decide_eq_false c51
               clear c51
               have H' := Aside0.mk H
               clear H
               have p442 : 0 ≤ (x65_3 : Int) := of_decide_eq_true (by first | (with_reducible assumption) | assumption)
               have q442 : x65_3 < (l1.length : Int) := of_decide_eq_true (by first | (with_reducible assumption) | assumption)
               obtain ⟨ad442, e442, hx442_0, hx442_1, hx442_2⟩ := at_T61 HR1.out x65_3 p442 q442
               cases e442
               replace hx442_0 := (HB.out.cell (World.block_lt_of_cell? w _ hx442_0)).trans hx442_0
               replace hx442_1 := (HB.out.cell (World.block_lt_of_cell? w _ hx442_1)).trans hx442_1
               replace hx442_2 := (HB.out.cell (World.block_lt_of_cell? w _ hx442_2)).trans hx442_2
               replace p442 := eq_true p442
               replace q442 := eq_true q442
               go_wp2_with (first | ((with_reducible refine gate_dst (N := 14) rfl ?_); (try (refine gate_guard (by rfl) ?_; dsimp only)); refine box_event ?hg (N := 14) ?hd (cs := #[.int .i64 0, .int .i64 0, .int .i64 0]) (t := 61) ?hr ?_; (case hd => rfl); (case hg => rfl); (case hr => first | (go_simp; done) | (go_simp; rfl)); intro gb443 hg w56 hbox hb; have n0_ := Aside0.mk (Kd.R_below (by (with_reducible repeat (first | apply Kd.R_alloc | apply Kd.R_drewN | apply Kd.R_drew)); exact HO_8.out) hb); have n1_ := Aside0.mk (Kd.R_below (by (with_reducible repeat (first | apply Kd.R_alloc | apply Kd.R_drewN | apply Kd.R_drew)); exact HO_9.out) hb); have n2_ := Aside0.mk (below_step (by repeat (first | (with_reducible first | exact HB.out | apply below_alloc | apply pw_below_drewN | apply below_drew1) | exact HB.out)) hb); have n3_ := Aside0.mk (hbox); have n4_ := Aside0.mk ((by rw [hg]; exact (below_size (by repeat (first | (with_reducible first | exact HB.out | apply below_alloc | apply pw_below_drewN | apply below_drew1) | exact HB.out))) : w.heap.size ≤ gb443)); have n5_ := Aside0.mk ((by rw [hg]; exact (below_size (by repeat (first | (with_reducible first | exact HB.out | apply below_alloc | apply pw_below_drewN | apply below_drew1) | exact HB.out))) : w.heap.size ≤ gb443)); clear HO_8; clear HO_9; clear HB; have HO_8 := n0_; have HO_9 := n1_; have HB := n2_; have BK443 := n3_; have GW443 := n4_; have GE443 := n5_; clear n0_ n1_ n2_ n3_ n4_ n5_; clear hb hbox hg; have hcz57_0 : w56.cell? ⟨gb443, 0, none⟩ = some (.int .i64 0) := (blk_cell BK443.out 0).trans rfl; have hcz57_1 : w56.cell? ⟨gb443, 1, none⟩ = some (.int .i64 0) := (blk_cell BK443.out 1).trans rfl; have hcz57_2 : w56.cell? ⟨gb443, 2, none⟩ = some (.int .i64 0) := (blk_cell BK443.out 2).trans rfl; have hfz57_0 := blk_frozen BK443.out 0; have hfz57_1 := blk_frozen BK443.out 1; have hfz57_2 := blk_frozen BK443.out 2) | ((with_reducible refine gate_callee (f := 63) rfl ?_); refine goesL_ (some 72) rfl rfl Try.func63 (by kernel_rfl) rfl #[.slice A2 l2.length c2, .int .i64 ((rd_T61 l1 x65_3).f0)] rfl (by (try simp only [List.map_toArray, List.map_cons, List.map_nil]); first | done | rfl | (simp only [List.length_drop, List.length_take]; rfl)) ?_; (with_reducible refine (slices_Contains_int_int.calls k3 _ _ l2 ((rd_T61 l1 x65_3).f0) false _ ?side1 ?side2 A46.out).mono ?_); (case side1 => exact Kd.C_below HR2.out (by repeat (first | (with_reducible first | exact HB.out | apply below_alloc | apply pw_below_drewN | apply below_drew1 | refine below_set ?_ GE443.out) | exact HB.out))); (case side2 => exact HC2.out); rintro e w' ⟨rfl, ⟨nd, rfl⟩⟩; refine ⟨_, rfl, ?_⟩; obtain ⟨Ao58, co58, eo58⟩ := Kd.R_slice HO_9.out; subst eo58) | (go_at_call 54; (with_reducible refine (impl_balOf.calls k3 _ _ x9_2 ((rd_T61 l1 x65_3).f0) ((rd_T61 l1 x65_3).f1) t445 _ ?side1 ?side2 A50.out).mono ?_); (case side1 => refine (Kd.R_reads' (e := 58) (base := w.heap.size) (ok := fun k_ => some k_ ≠ (v429 : Value).ownBlock) (n := x9_2.length) (c := co58) ?_).2.2; exact (by (with_reducible repeat (first | apply Kd.R_alloc | apply Kd.R_drewN | apply Kd.R_drew)); exact (Kd.R_mono (Kd.R_far (p := ⟨gb443, 2, none⟩) (Kd.R_far (p := ⟨gb443, 1, none⟩) (Kd.R_far (p := ⟨gb443, 0, none⟩) (Kd.R_types HO_9.out BK443.out (by decide)) (fun _ hk => hk.2) (.int .i64 ((rd_T61 l1 x65_3).f0))) (fun _ hk => hk.2) (.int .i64 ((rd_T61 l1 x65_3).f1))) (fun _ hk => hk.2) (.int .i64 ((rd_T61 l1 x65_3).f2))) (fun _ h_ => h_.1)))); (case side2 => exact (Kd.R_reads' HO_9.out).2.1); rintro e w59 ⟨rfl, hb⟩; have n0_ := Aside0.mk (Kd.R_below (by (with_reducible repeat (first | apply Kd.R_alloc | apply Kd.R_drewN | apply Kd.R_drew)); exact (Kd.R_mono (Kd.R_far (p := ⟨gb443, 2, none⟩) (Kd.R_far (p := ⟨gb443, 1, none⟩) (Kd.R_far (p := ⟨gb443, 0, none⟩) (Kd.R_types HO_8.out BK443.out (by decide)) (fun _ hk => hk.2) (.int .i64 ((rd_T61 l1 x65_3).f0))) (fun _ hk => hk.2) (.int .i64 ((rd_T61 l1 x65_3).f1))) (fun _ hk => hk.2) (.int .i64 ((rd_T61 l1 x65_3).f2))) (fun _ h_ => h_.1))) hb); have n1_ := Aside0.mk (Kd.R_below (by (with_reducible repeat (first | apply Kd.R_alloc | apply Kd.R_drewN | apply Kd.R_drew)); exact (Kd.R_mono (Kd.R_far (p := ⟨gb443, 2, none⟩) (Kd.R_far (p := ⟨gb443, 1, none⟩) (Kd.R_far (p := ⟨gb443, 0, none⟩) (Kd.R_types HO_9.out BK443.out (by decide)) (fun _ hk => hk.2) (.int .i64 ((rd_T61 l1 x65_3).f0))) (fun _ hk => hk.2) (.int .i64 ((rd_T61 l1 x65_3).f1))) (fun _ hk => hk.2) (.int .i64 ((rd_T61 l1 x65_3).f2))) (fun _ h_ => h_.1))) hb); have n2_ := Aside0.mk (blk_below (g := gb443) (o := .cells #[.int .i64 ((rd_T61 l1 x65_3).f0), .int .i64 ((rd_T61 l1 x65_3).f1), .int .i64 ((rd_T61 l1 x65_3).f2)] 61 (0, 0)) (by (with_reducible repeat (first | refine blk_drewN ?_ _ | refine blk_drew ?_ | refine blk_alloc ?_ _)); refine blk_put (cs := #[.int .i64 ((rd_T61 l1 x65_3).f0), .int .i64 ((rd_T61 l1 x65_3).f1), .int .i64 0]) ?_ 2 _ rfl; (with_reducible repeat (first | refine blk_drewN ?_ _ | refine blk_drew ?_ | refine blk_alloc ?_ _)); refine blk_put (cs := #[.int .i64 ((rd_T61 l1 x65_3).f0), .int .i64 0, .int .i64 0]) ?_ 1 _ rfl; (with_reducible repeat (first | refine blk_drewN ?_ _ | refine blk_drew ?_ | refine blk_alloc ?_ _)); refine blk_put (cs := #[.int .i64 0, .int .i64 0, .int .i64 0]) ?_ 0 _ rfl; (with_reducible repeat (first | refine blk_drewN ?_ _ | refine blk_drew ?_ | refine blk_alloc ?_ _)); exact BK443.out) hb); have n3_ := Aside0.mk (below_step (by repeat (first | (with_reducible first | exact HB.out | apply below_alloc | apply pw_below_drewN | apply below_drew1 | refine below_set ?_ GE443.out) | exact HB.out)) hb); clear HO_8; clear HO_9; clear BK443; clear HB; have HO_8 := n0_; have HO_9 := n1_; have BK443 := n2_; have HB := n3_; clear n0_ n1_ n2_ n3_; (try clear hb); (try clear hb2); (try clear hk); (try clear hi)))
               go_roundg k3
               case measure => have := HJ3.out; have := HK2.out; have := HK3.out; omega
               case rel => exact ⟨(wrap64 (x65_3 + 1)), (by first | rfl | (simp; done) | (simp [*]; done)), H', ⟨by have := HJ3.out; have := HK2.out; have := HK3.out; omega⟩, ⟨by (with_reducible repeat (first | apply Kd.R_alloc | apply Kd.R_drewN | apply Kd.R_drew)); exact HO_8.out⟩, ⟨by (with_reducible repeat (first | apply Kd.R_alloc | apply Kd.R_drewN | apply Kd.R_drew)); exact HO_9.out⟩, ⟨by repeat (first | (with_reducible first | exact HB.out | apply below_alloc | apply pw_below_drewN | apply below_drew1 | refine below_set ?_ GE443.out) | exact HB.out)⟩⟩
            ·
             rw [if_neg c45] at H
             exact absurd H (by simp)
           ·
            rw [if_neg c44] at H
            exact absurd H (by simp)
          ·
           rw [if_neg c43] at H
           have c43b0 : decide (x65_3 < (l1.length : Int)) = false := decide_eq_false c43
           clear c43
           by_cases c60 : (x9_2.length : Int) > 160
           ·
            rw [if_pos c60] at H
            have c60b0 : decide (160 < (x9_2.length : Int)) = true := decide_eq_true c60
            have c60b1 : decide (160 < x9_2.length) = true := decide_eq_true (by omega)
            clear c60
            simp only [Option.some.injEq, Prod.mk.injEq] at H
            obtain ⟨rfl, rfl⟩ := H
            obtain ⟨Ao61, co61, eo61⟩ := Kd.R_slice HO_9.out
            subst eo61
            go_wp2
            go_ret2
            exact ⟨_, by first | rfl | (simp [errW_none, errW_some] <;> rfl) | (simp [*, errW_none, errW_some] <;> rfl), by (with_reducible repeat (first | apply Kd.R_alloc | apply Kd.R_drewN | apply Kd.R_drew)); exact Kd.R_mono HO_8.out (fun _ hk => trivial), by repeat (first | (with_reducible first | exact HB.out | apply below_alloc | apply pw_below_drewN | apply below_drew1) | exact HB.out)⟩
           ·
            rw [if_neg c60] at H
            have c60b0 : decide (160 < (x9_2.length : Int)) = false := decide_eq_false c60
            have c60b1 : decide (160 < x9_2.length) = false := decide_eq_false (by omega)
            clear c60
            simp only [Option.some.injEq, Prod.mk.injEq] at H
            obtain ⟨rfl, rfl⟩ := H
            obtain ⟨Ao62, co62, eo62⟩ := Kd.R_slice HO_9.out
            subst eo62
            go_wp2
            go_ret2
            exact ⟨_, by first | rfl | (simp [errW_none, errW_some] <;> rfl) | (simp [*, errW_none, errW_some] <;> rfl), by (with_reducible repeat (first | apply Kd.R_alloc | apply Kd.R_drewN | apply Kd.R_drew)); exact Kd.R_mono HO_9.out (fun _ hk => trivial), by repeat (first | (with_reducible first | exact HB.out | apply below_alloc | apply pw_below_drewN | apply below_drew1) | exact HB.out)⟩
    ·
     replace c17 := Bool.eq_false_iff.mpr c17
     subst c17
     have H1 : (some (t428, 2)) = some (r1, r2) := by rw [if_neg (show ¬ (false = true) by decide)] at H; exact H
     clear H
     have H := H1
     clear H1
     simp only [Option.some.injEq, Prod.mk.injEq] at H
     obtain ⟨rfl, rfl⟩ := H
     go_wp2_with (first | ((with_reducible refine gate_callee (f := 62) rfl ?_); refine goesL_ (some 29) rfl rfl Try.func62 (by kernel_rfl) rfl #[.slice A0 l0.length c0] rfl (by (try simp only [List.map_toArray, List.map_cons, List.map_nil]); first | done | rfl | (simp only [List.length_drop, List.length_take]; rfl)) ?_; (with_reducible refine (impl_Bal_62.calls _ _ l0 t428 _ ?side1 ?side2 A15.out).mono ?_); (case side1 => repeat (first | exact (Kd.C_below HR0.out HB.out) | (with_reducible refine Kd.C_alloc ?_ _) | (with_reducible refine Kd.C_drewN ?_ _) | (with_reducible refine Kd.C_drew ?_))); (case side2 => exact HC0.out); rintro e w63 ⟨v429, rfl, ho0, hb⟩; refine ⟨_, rfl, ?_⟩; have n0_ := Aside0.mk (Kd.R_lower ho0 (below_size (by repeat (first | (with_reducible first | exact HB.out | apply below_alloc | apply pw_below_drewN | apply below_drew1) | exact HB.out)))); have n1_ := Aside0.mk (below_step (by repeat (first | (with_reducible first | exact HB.out | apply below_alloc | apply pw_below_drewN | apply below_drew1) | exact HB.out)) hb); clear HB; have HO430 := n0_; have HB := n1_; clear n0_ n1_; (try clear hb); (try clear hb2); (try clear hk); (try clear hi); (try clear ho0)) | ((with_reducible refine gate_callee (f := 20) rfl ?_); refine goesL_ (some 31) rfl rfl Try.func20 (by kernel_rfl) rfl #[.slice A1 l1.length c1] rfl (by (try simp only [List.map_toArray, List.map_cons, List.map_nil]); first | done | rfl | (simp only [List.length_drop, List.length_take]; rfl)) ?_; (with_reducible refine (impl_LegsOk.calls kj3 _ _ l1 false _ ?side1 ?side2 A16.out).mono ?_); (case side1 => repeat (first | exact (Kd.C_below HR1.out HB.out) | (with_reducible refine Kd.C_alloc ?_ _) | (with_reducible refine Kd.C_drewN ?_ _) | (with_reducible refine Kd.C_drew ?_))); (case side2 => exact HC1.out); rintro e w64 ⟨rfl, hb⟩; refine ⟨_, rfl, ?_⟩; have n0_ := Aside0.mk (Kd.R_below (by (with_reducible repeat (first | apply Kd.R_alloc | apply Kd.R_drewN | apply Kd.R_drew)); exact HO430.out) hb); have n1_ := Aside0.mk (below_step (by repeat (first | (with_reducible first | exact HB.out | apply below_alloc | apply pw_below_drewN | apply below_drew1) | exact HB.out)) hb); clear HO430; clear HB; have HO430 := n0_; have HB := n1_; clear n0_ n1_; (try clear hb); (try clear hb2); (try clear hk); (try clear hi)))
     go_ret2
     exact ⟨_, by first | rfl | (simp [errW_none, errW_some] <;> rfl) | (simp [*, errW_none, errW_some] <;> rfl), by (with_reducible repeat (first | apply Kd.R_alloc | apply Kd.R_drewN | apply Kd.R_drew)); exact HO430.out, by repeat (first | (with_reducible first | exact HB.out | apply below_alloc | apply pw_below_drewN | apply below_drew1) | exact HB.out)⟩
end Go.Proofs.Ytpcjpjjkaplebaa.P
namespace Go.Proofs.Ytpcjpjjkaplebaa.P
open Go.RowKit Go.Proofs.YtpcjpjjkaplebaaW.PrintWords Go.Proofs.YtpcjpjjkaplebaaW.PrintLast Go.Proofs.YtpcjpjjkaplebaaW.PrintMore
attribute [local go_sem] max2_int min2_int max_two min_two max_three min_three max_four min_four   -- for this text's walks alone
set_option linter.unusedVariables false
set_option linter.unusedSimpArgs false
def laws_eqIntS.l0 : Nat → List Int → List Int → Int → Option (Bool)
 | 0, _, _, _ => none
 | k + 1, x0, x1, x5 => if x5 < (x0.length : Int) then (if 0 ≤ x5 then (if x5 < (x1.length : Int) then (if (rd x0 x5) = (rd x1 x5) then (laws_eqIntS.l0 k x0 x1 (wrap64 (x5 + 1))) else (some false)) else (none)) else (none)) else (some true)
def laws_eqIntS.f (k : Nat) (l0 : List Int) (l1 : List Int) : Option (Bool) := if (l0.length : Int) = (l1.length : Int) then (laws_eqIntS.l0 k l0 l1 0) else (some false)
set_option maxHeartbeats 8000000 in
set_option maxRecDepth 100000 in
theorem laws_eqIntS.calls (k : Nat) (A0 : Option Addr) (c0 : Nat) (l0 : List Int) (A1 : Option Addr) (c1 : Nat) (l1 : List Int) (r : Bool) (w : World) (hr0 : Kd.C (Kd.int .i64) w A0 l0.length l0) (hc0 : l0.length ≤ c0) (hr1 : Kd.C (Kd.int .i64) w A1 l1.length l1) (hc1 : l1.length ≤ c1) (h : laws_eqIntS.f k l0 l1 = some r) :
 Calls Try.prog 33 #[.slice A0 l0.length c0, .slice A1 l1.length c1] w fun e w' => e = .returned (.bool r) ∧ Drawn0 w w' := by
 have HR0 := Aside0.mk hr0
 have HC0 := Aside0.mk hc0
 clear hr0 hc0
 have HR1 := Aside0.mk hr1
 have HC1 := Aside0.mk hc1
 clear hr1 hc1
 have H : (if (l0.length : Int) = (l1.length : Int) then (laws_eqIntS.l0 k l0 l1 0) else (some false)) = some r := h
 clear h
 by_cases c3 : (l0.length : Int) = (l1.length : Int)
 ·
  rw [if_pos c3] at H
  have c3b0 : ((l0.length : Int) == (l1.length : Int)) = true := beq_iff_eq.mpr c3
  have c3b1 : ((l0.length : Int) != (l1.length : Int)) = false := bne_eq_false_iff_eq.mpr c3
  have c3b2 : (l0.length == l1.length) = true := by first | simpa using c3 | (simp at c3 ⊢; omega)
  clear c3
  have H' := Aside0.mk H
  clear H
  go_enter Try.func33, Try.ntmps33
  go_wp2
  repeat (go_quiet (fail); try go_wp2)
  go_loopg [5] k (fun kq v5 w' => ∃ (x5_1 : Int), v5 = .int .i64 x5_1 ∧ Aside0 (laws_eqIntS.l0 kq l0 l1 x5_1 = some r) ∧ Aside0 (kq ≤ k) ∧ Drawn0 w w')
  case atStart => exact ⟨(0), (by first | rfl | (simp; done) | (simp [*]; done)), H', ⟨Nat.le_refl _⟩, by repeat (first | exact Drawn0.refl _ | apply Drawn0.step)⟩
  case round =>
   clear H'
   try clear c1
   try clear p2
   try clear c3
   try clear c3b0
   try clear c3b1
   try clear c3b2
   obtain ⟨x5_1, rfl, HA, HK1, ⟨m1, rfl⟩⟩ := hrel
   cases gk with
   | zero => exact absurd HA.out (by simp [laws_eqIntS.l0])
   | succ k1 =>
    have H := HA.out
    clear HA
    simp only [laws_eqIntS.l0] at H
    by_cases c4 : x5_1 < (l0.length : Int)
    ·
     rw [if_pos c4] at H
     have c4b0 : decide (x5_1 < (l0.length : Int)) = true := decide_eq_true c4
     clear c4
     by_cases c5 : 0 ≤ x5_1
     ·
      rw [if_pos c5] at H
      have c5b0 : decide (0 ≤ x5_1) = true := decide_eq_true c5
      clear c5
      by_cases c6 : x5_1 < (l1.length : Int)
      ·
       rw [if_pos c6] at H
       have c6b0 : decide (x5_1 < (l1.length : Int)) = true := decide_eq_true c6
       clear c6
       by_cases c7 : (rd l0 x5_1) = (rd l1 x5_1)
       ·
        rw [if_pos c7] at H
        have c7b0 : ((rd l0 x5_1) == (rd l1 x5_1)) = true := beq_iff_eq.mpr c7
        have c7b1 : ((rd l0 x5_1) != (rd l1 x5_1)) = false := bne_eq_false_iff_eq.mpr c7
        clear c7
        have H' := Aside0.mk H
        clear H
        have p446 : 0 ≤ (x5_1 : Int) := of_decide_eq_true (by first | (with_reducible assumption) | assumption)
        have q446 : x5_1 < (l0.length : Int) := of_decide_eq_true (by first | (with_reducible assumption) | assumption)
        obtain ⟨ad446, e446, hx446_0⟩ := Kd.at_int HR0.out x5_1 p446 q446
        cases e446
        replace p446 := eq_true p446
        replace q446 := eq_true q446
        have p447 : 0 ≤ (x5_1 : Int) := of_decide_eq_true (by first | (with_reducible assumption) | assumption)
        have q447 : x5_1 < (l1.length : Int) := of_decide_eq_true (by first | (with_reducible assumption) | assumption)
        obtain ⟨ad447, e447, hx447_0⟩ := Kd.at_int HR1.out x5_1 p447 q447
        cases e447
        replace p447 := eq_true p447
        replace q447 := eq_true q447
        go_wp2
        repeat (go_quiet (fail); try go_wp2)
        go_roundg k1
        case measure => have := HK1.out; omega
        case rel => exact ⟨(wrap64 (x5_1 + 1)), (by first | rfl | (simp; done) | (simp [*]; done)), H', ⟨by have := HK1.out; omega⟩, by repeat (first | exact Drawn0.refl _ | apply Drawn0.step)⟩
       ·
        rw [if_neg c7] at H
        have c7b0 : ((rd l0 x5_1) == (rd l1 x5_1)) = false := beq_eq_false_iff_ne.mpr c7
        have c7b1 : ((rd l0 x5_1) != (rd l1 x5_1)) = true := bne_iff_ne.mpr c7
        obtain rfl := Option.some.inj H
        have p446 : 0 ≤ (x5_1 : Int) := of_decide_eq_true (by first | (with_reducible assumption) | assumption)
        have q446 : x5_1 < (l0.length : Int) := of_decide_eq_true (by first | (with_reducible assumption) | assumption)
        obtain ⟨ad446, e446, hx446_0⟩ := Kd.at_int HR0.out x5_1 p446 q446
        cases e446
        replace p446 := eq_true p446
        replace q446 := eq_true q446
        have p447 : 0 ≤ (x5_1 : Int) := of_decide_eq_true (by first | (with_reducible assumption) | assumption)
        have q447 : x5_1 < (l1.length : Int) := of_decide_eq_true (by first | (with_reducible assumption) | assumption)
        obtain ⟨ad447, e447, hx447_0⟩ := Kd.at_int HR1.out x5_1 p447 q447
        cases e447
        replace p447 := eq_true p447
        replace q447 := eq_true q447
        go_wp2
        repeat (go_quiet (fail); try go_wp2)
        go_ret
        exact ⟨by first | rfl | (simp; done) | (simp [*]; done), by repeat (first | exact Drawn0.refl _ | apply Drawn0.step)⟩
      ·
       rw [if_neg c6] at H
       exact absurd H (by simp)
     ·
      rw [if_neg c5] at H
      exact absurd H (by simp)
    ·
     rw [if_neg c4] at H
     have c4b0 : decide (x5_1 < (l0.length : Int)) = false := decide_eq_false c4
     clear c4
     obtain rfl := Option.some.inj H
     go_wp2
     repeat (go_quiet (fail); try go_wp2)
     go_ret
     exact ⟨by first | rfl | (simp; done) | (simp [*]; done), by repeat (first | exact Drawn0.refl _ | apply Drawn0.step)⟩
 ·
  rw [if_neg c3] at H
  have c3b0 : ((l0.length : Int) == (l1.length : Int)) = false := beq_eq_false_iff_ne.mpr c3
  have c3b1 : ((l0.length : Int) != (l1.length : Int)) = true := bne_iff_ne.mpr c3
  have c3b2 : (l0.length == l1.length) = false := by first | simpa using c3 | (simp at c3 ⊢; omega)
  obtain rfl := Option.some.inj H
  go_enter Try.func33, Try.ntmps33
  go_wp2
  repeat (go_quiet (fail); try go_wp2)
  go_ret
  exact ⟨by first | rfl | (simp; done) | (simp [*]; done), by repeat (first | exact Drawn0.refl _ | apply Drawn0.step)⟩
def laws_markLegS.l0 : Nat → List (S61) → Int → Int → Option (Int × (List (S61)))
 | 0, _, _, _ => none
 | k + 1, x0, x1, x5 => if x5 < (x0.length : Int) then (if 0 ≤ x5 then ((some (x0.set (x5 : Int).toNat (⟨x1, (rd_T61 x0 x5).f1, (rd_T61 x0 x5).f2⟩ : S61) : List (S61))).bind fun y448 => ((some (y448.set (x5 : Int).toNat (⟨(rd_T61 y448 x5).f0, wrap64 (x1 + 1), (rd_T61 y448 x5).f2⟩ : S61) : List (S61))).bind fun y449 => (laws_markLegS.l0 k (y449.set (x5 : Int).toNat (⟨(rd_T61 y449 x5).f0, (rd_T61 y449 x5).f1, wrap64 ((wrap64 (x1 + 1)) + 1)⟩ : S61)) (wrap64 ((wrap64 ((wrap64 (x1 + 1)) + 1)) + 1)) (wrap64 (x5 + 1))))) else (none)) else (some (x1, x0))
def laws_markLegS.f (k : Nat) (l0 : List (S61)) (a1 : Int) : Option (Int × (List (S61))) := laws_markLegS.l0 k l0 a1 0
set_option maxHeartbeats 8000000 in
set_option maxRecDepth 100000 in
theorem laws_markLegS.calls (k : Nat) (P0_ : Nat → Prop) (u9000_ : Value) (l0 : List (S61)) (a1 : Int) (r1 : Int) (r2 : List (S61)) (w0 w : World) (hB : Below w0.heap.size w0 w) (ho0 : Kd.R k61 61 w w0.heap.size P0_ u9000_ l0) (h : laws_markLegS.f k l0 a1 = some (r1, r2)) :
 Calls Try.prog 34 #[u9000_, .int .i64 a1] w fun e w' => e = .returned (.int .i64 r1) ∧ Kd.R k61 61 w' w0.heap.size (fun k_ => (P0_ k_ ∨ w.heap.size ≤ k_)) u9000_ r2 ∧ Below w0.heap.size w0 w' ∧ Kept w w' (fun k_ => P0_ k_) := by
 have HO0 := Aside0.mk (show Kd.R k61 61 w w0.heap.size (fun k_ => (P0_ k_ ∨ w.heap.size ≤ k_)) u9000_ l0 from Kd.R_mono ho0 (fun k_ hk => (.inl hk)))
 have HK := Aside0.mk (Kept.refl w (fun k_ => P0_ k_))
 have HW0 := Aside0.mk hB.size
 have HB := Aside0.mk hB
 clear hB
 have H : (laws_markLegS.l0 k l0 a1 0) = some (r1, r2) := h
 clear h
 have H' := Aside0.mk H
 clear H
 go_enter Try.func34, Try.ntmps34
 go_wp2
 go_loopg [1, 5] k (fun kq v1 v5 w' => ∃ (x0_1 : List (S61)) (x1_1 : Int) (x5_1 : Int), v1 = .int .i64 x1_1 ∧ v5 = .int .i64 x5_1 ∧ Aside0 (laws_markLegS.l0 kq x0_1 x1_1 x5_1 = some (r1, r2)) ∧ Aside0 (kq ≤ k) ∧ Aside0 (Kd.R k61 61 w' w0.heap.size (fun k_ => (P0_ k_ ∨ w.heap.size ≤ k_)) u9000_ x0_1) ∧ Aside0 (Kept w w' (fun k_ => P0_ k_)) ∧ Aside0 (Below w0.heap.size w0 w'))
 case atStart => exact ⟨(l0), (a1), (0), (by first | rfl | (simp; done) | (simp [*]; done)), (by first | rfl | (simp; done) | (simp [*]; done)), H', ⟨Nat.le_refl _⟩, ⟨by (with_reducible repeat (first | apply Kd.R_alloc | apply Kd.R_drewN | apply Kd.R_drew)); exact HO0.out⟩, ⟨by repeat (first | (with_reducible first | exact HK.out | apply Kept.alloc | apply Kept.drewN | apply Kept.drew) | exact HK.out)⟩, ⟨by repeat (first | (with_reducible first | exact HB.out | apply below_alloc | apply pw_below_drewN | apply below_drew1) | exact HB.out)⟩⟩
 case round =>
  clear H'
  try clear p2
  obtain ⟨x0_1, x1_1, x5_1, rfl, rfl, HA, HK1, HO_0, HK, HB⟩ := hrel
  cases gk with
  | zero => exact absurd HA.out (by simp [laws_markLegS.l0])
  | succ k1 =>
   have H := HA.out
   clear HA
   simp only [laws_markLegS.l0] at H
   by_cases c3 : x5_1 < (x0_1.length : Int)
   ·
    rw [if_pos c3] at H
    have c3b0 : decide (x5_1 < (x0_1.length : Int)) = true := decide_eq_true c3
    clear c3
    by_cases c4 : 0 ≤ x5_1
    ·
     rw [if_pos c4] at H
     have c4b0 : decide (0 ≤ x5_1) = true := decide_eq_true c4
     clear c4
     obtain ⟨y448, hy448⟩ : ∃ y_ : List (S61), y_ = (x0_1.set (x5_1 : Int).toNat (⟨x1_1, (rd_T61 x0_1 x5_1).f1, (rd_T61 x0_1 x5_1).f2⟩ : S61)) := ⟨_, rfl⟩
     replace H : ((some (y448.set (x5_1 : Int).toNat (⟨(rd_T61 y448 x5_1).f0, wrap64 (x1_1 + 1), (rd_T61 y448 x5_1).f2⟩ : S61) : List (S61))).bind fun y449 => (laws_markLegS.l0 k1 (y449.set (x5_1 : Int).toNat (⟨(rd_T61 y449 x5_1).f0, (rd_T61 y449 x5_1).f1, wrap64 ((wrap64 (x1_1 + 1)) + 1)⟩ : S61)) (wrap64 ((wrap64 ((wrap64 (x1_1 + 1)) + 1)) + 1)) (wrap64 (x5_1 + 1)))) = some (r1, r2) := by first | (rw [hy448]; with_reducible exact H) | (have H2_ := (Option.bind_some _ _).symm.trans H; rw [hy448]; with_reducible exact H2_) | (have H2_ := (Option.bind_some _ _).symm.trans H; with_reducible exact H2_) | with_reducible exact H | (rw [hy448]; exact H) | exact H
     have Ny448 := Aside0.mk hy448
     clear hy448
     obtain ⟨y449, hy449⟩ : ∃ y_ : List (S61), y_ = (y448.set (x5_1 : Int).toNat (⟨(rd_T61 y448 x5_1).f0, wrap64 (x1_1 + 1), (rd_T61 y448 x5_1).f2⟩ : S61)) := ⟨_, rfl⟩
     replace H : (laws_markLegS.l0 k1 (y449.set (x5_1 : Int).toNat (⟨(rd_T61 y449 x5_1).f0, (rd_T61 y449 x5_1).f1, wrap64 ((wrap64 (x1_1 + 1)) + 1)⟩ : S61)) (wrap64 ((wrap64 ((wrap64 (x1_1 + 1)) + 1)) + 1)) (wrap64 (x5_1 + 1))) = some (r1, r2) := by first | (rw [hy449]; with_reducible exact H) | (have H2_ := (Option.bind_some _ _).symm.trans H; rw [hy449]; with_reducible exact H2_) | (have H2_ := (Option.bind_some _ _).symm.trans H; with_reducible exact H2_) | with_reducible exact H | (rw [hy449]; exact H) | exact H
     have Ny449 := Aside0.mk hy449
     clear hy449
     obtain ⟨y450, hy450⟩ : ∃ y_ : List (S61), y_ = (y449.set (x5_1 : Int).toNat (⟨(rd_T61 y449 x5_1).f0, (rd_T61 y449 x5_1).f1, wrap64 ((wrap64 (x1_1 + 1)) + 1)⟩ : S61)) := ⟨_, rfl⟩
     replace H : (laws_markLegS.l0 k1 y450 (wrap64 ((wrap64 ((wrap64 (x1_1 + 1)) + 1)) + 1)) (wrap64 (x5_1 + 1))) = some (r1, r2) := by first | (rw [hy450]; with_reducible exact H) | (have H2_ := (Option.bind_some _ _).symm.trans H; rw [hy450]; with_reducible exact H2_) | (have H2_ := (Option.bind_some _ _).symm.trans H; with_reducible exact H2_) | with_reducible exact H | (rw [hy450]; exact H) | exact H
     have Ny450 := Aside0.mk hy450
     clear hy450
     have H' := Aside0.mk H
     clear H
     obtain ⟨Ao8, co8, eo8⟩ := Kd.R_slice HO_0.out
     subst eo8
     have p5 : 0 ≤ (x5_1 : Int) := of_decide_eq_true (by first | (with_reducible assumption) | assumption)
     have q5 : (x5_1 : Int) < ((x0_1.length : Int) : Int) := of_decide_eq_true (by first | (with_reducible assumption) | assumption)
     obtain ⟨go5, co5, eo5, gb5, gl5, cl5, HG5⟩ := Kd.R_form HO_0.out (by omega)
     (first | cases eo5 | (injection eo5 with ea_ en_ ec_; (first | subst ea_ | (injection ea_ with ea_; subst ea_)); subst ec_; clear en_))
     have GB5 := Aside0.mk gb5
     have GG5 := Aside0.mk HG5
     clear gb5 gl5 HG5
     have HMgo5 := Aside0.mk (show (P0_ go5 ∨ w.heap.size ≤ go5) from (HO_0.out.1 _ rfl))
     obtain ⟨ce5, hcl5, hM5, hcc5, hfr5⟩ := Kd.R_elem HO_0.out z61 (x5_1 : Int) p5 q5
     obtain rfl := k61_openM hM5
     have hx5_0 : wr.cell? ⟨go5, (x5_1 : Int).toNat * 3, none⟩ = some (.int .i64 ((rd_T61 x0_1 x5_1).f0)) := hcc5 0 _ rfl
     have hx5_1 : wr.cell? ⟨go5, (x5_1 : Int).toNat * 3 + 1, none⟩ = some (.int .i64 ((rd_T61 x0_1 x5_1).f1)) := hcc5 1 _ rfl
     have hx5_2 : wr.cell? ⟨go5, (x5_1 : Int).toNat * 3 + 2, none⟩ = some (.int .i64 ((rd_T61 x0_1 x5_1).f2)) := hcc5 2 _ rfl
     have hf5_0 : wr.frozen? ⟨go5, (x5_1 : Int).toNat * 3, none⟩ = false := hfr5 0
     have hf5_1 : wr.frozen? ⟨go5, (x5_1 : Int).toNat * 3 + 1, none⟩ = false := hfr5 1
     have hf5_2 : wr.frozen? ⟨go5, (x5_1 : Int).toNat * 3 + 2, none⟩ = false := hfr5 2
     clear hcl5 hcc5 hfr5 hM5
     replace p5 := eq_true p5
     replace q5 := eq_true q5
     have HX9 := Aside0.mk (show Kd.R k61 61 wr w0.heap.size (fun k_ => (P0_ k_ ∨ w.heap.size ≤ k_)) (.slice (some ⟨go5, 0, none⟩) x0_1.length co8) x0_1 from (by (with_reducible repeat (first | apply Kd.R_alloc | apply Kd.R_drewN | apply Kd.R_drew)); exact HO_0.out))
     obtain ⟨ce9, hcl9, hM9, hcc9, hfr9⟩ := Kd.R_elem HX9.out z61 (x5_1 : Int) (of_decide_eq_true (by first | (with_reducible assumption) | assumption)) (by have h_ : (x5_1 : Int) < ((x0_1.length : Int) : Int) := of_decide_eq_true (by first | (with_reducible assumption) | assumption); first | exact h_ | (have e_ := (Kd.R_reads' HO_0.out).1; omega) | simpa using h_)
     obtain rfl := k61_openM hM9
     have HP9 := Kd.R_seg HX9.out (x5_1 : Int) (of_decide_eq_true (by first | (with_reducible assumption) | assumption)) (by have h_ : (x5_1 : Int) < ((x0_1.length : Int) : Int) := of_decide_eq_true (by first | (with_reducible assumption) | assumption); first | exact h_ | (have e_ := (Kd.R_reads' HO_0.out).1; omega) | simpa using h_) (seg := [.int .i64 x1_1]) (j := 0) hcl9 hcc9 (show 1 ≤ 3 from by decide) (x' := (⟨x1_1, (rd_T61 x0_1 x5_1).f1, (rd_T61 x0_1 x5_1).f2⟩ : S61)) (k61_mkM _ _ _ (⟨x1_1, (rd_T61 x0_1 x5_1).f1, (rd_T61 x0_1 x5_1).f2⟩ : S61) ) (fun _ hk => hk)
     have hx9_0 := hcc9 0 _ rfl
     (try simp only [show (k61).sz = 3 from rfl, Nat.mul_one, Nat.add_zero] at hx9_0)
     have hf9_0 := hfr9 0
     (try simp only [show (k61).sz = 3 from rfl, Nat.mul_one, Nat.add_zero] at hf9_0)
     clear hcl9 hcc9 hfr9 hM9
     go_wp2_with (first | ((with_reducible refine gate_store (t := 3) (p := 16) rfl ?_); refine store_event (t := 3) (p := 16) (v := ?vo_w10) (w1 := (wr.setCell ⟨go5, (x5_1 : Int).toNat * 3, none⟩ (.int .i64 x1_1))) ?hg ?ho ?hn ?hr ?_; (case ho => rfl); (case hg => rfl); (case hn => rfl); (case hr => first | (go_simp; done) | (go_simp; rfl)); intro w10 hw; have hg : wr.grownBy w10 (some go5) := (by rw [hw]; exact HP9.2); have hp_ : Kd.R k61 61 w10 w0.heap.size (fun k_ => (P0_ k_ ∨ w.heap.size ≤ k_)) (.slice (some ⟨go5, 0, none⟩) x0_1.length co8) y448 := (by rw [hw, Ny448.out]; exact HP9.1); clear HP9; have n0_ := Aside0.mk (hp_); have n1_ := Aside0.mk ((by rw [hw]; exact below_set (HB.out) GB5.out : Below w0.heap.size w0 w10)); have n2_ := Aside0.mk (Kept.of_grown (S := (fun k_ => P0_ k_)) hg (by repeat (first | (with_reducible first | exact HK.out | apply Kept.alloc | apply Kept.drewN | apply Kept.drew) | exact HK.out)) (fun k_ e_ => (HO_0.out.1 k_ e_))); clear HO_0; clear HB; clear HK; have HO_0 := n0_; have HB := n1_; have HK := n2_; clear n0_ n1_ n2_; clear hg hw hp_; have p6 : 0 ≤ (x5_1 : Int) := of_decide_eq_true (by first | (with_reducible assumption) | assumption); have q6 : (x5_1 : Int) < ((x0_1.length : Int) : Int) := of_decide_eq_true (by first | (with_reducible assumption) | assumption); obtain ⟨ce6, hcl6, hM6, hcc6, hfr6⟩ := Kd.R_elem HO_0.out z61 (x5_1 : Int) p6 q6; obtain rfl := k61_openM hM6; have hx6_0 : w10.cell? ⟨go5, (x5_1 : Int).toNat * 3, none⟩ = some (.int .i64 ((rd_T61 y448 x5_1).f0)) := hcc6 0 _ rfl; have hx6_1 : w10.cell? ⟨go5, (x5_1 : Int).toNat * 3 + 1, none⟩ = some (.int .i64 ((rd_T61 y448 x5_1).f1)) := hcc6 1 _ rfl; have hx6_2 : w10.cell? ⟨go5, (x5_1 : Int).toNat * 3 + 2, none⟩ = some (.int .i64 ((rd_T61 y448 x5_1).f2)) := hcc6 2 _ rfl; have hf6_0 : w10.frozen? ⟨go5, (x5_1 : Int).toNat * 3, none⟩ = false := hfr6 0; have hf6_1 : w10.frozen? ⟨go5, (x5_1 : Int).toNat * 3 + 1, none⟩ = false := hfr6 1; have hf6_2 : w10.frozen? ⟨go5, (x5_1 : Int).toNat * 3 + 2, none⟩ = false := hfr6 2; clear hcl6 hcc6 hfr6 hM6; replace p6 := eq_true p6; replace q6 := eq_true q6; have HX11 := Aside0.mk (show Kd.R k61 61 w10 w0.heap.size (fun k_ => (P0_ k_ ∨ w.heap.size ≤ k_)) (.slice (some ⟨go5, 0, none⟩) x0_1.length co8) y448 from (by (with_reducible repeat (first | apply Kd.R_alloc | apply Kd.R_drewN | apply Kd.R_drew)); exact HO_0.out)); obtain ⟨ce11, hcl11, hM11, hcc11, hfr11⟩ := Kd.R_elem HX11.out z61 (x5_1 : Int) (of_decide_eq_true (by first | (with_reducible assumption) | assumption)) (by have h_ : (x5_1 : Int) < ((x0_1.length : Int) : Int) := of_decide_eq_true (by first | (with_reducible assumption) | assumption); first | exact h_ | (have e_ := (Kd.R_reads' HO_0.out).1; omega) | simpa using h_); obtain rfl := k61_openM hM11; have HP11 := Kd.R_seg HX11.out (x5_1 : Int) (of_decide_eq_true (by first | (with_reducible assumption) | assumption)) (by have h_ : (x5_1 : Int) < ((x0_1.length : Int) : Int) := of_decide_eq_true (by first | (with_reducible assumption) | assumption); first | exact h_ | (have e_ := (Kd.R_reads' HO_0.out).1; omega) | simpa using h_) (seg := [.int .i64 (wrap64 (x1_1 + 1))]) (j := 1) hcl11 hcc11 (show 2 ≤ 3 from by decide) (x' := (⟨(rd_T61 y448 x5_1).f0, wrap64 (x1_1 + 1), (rd_T61 y448 x5_1).f2⟩ : S61)) (k61_mkM _ _ _ (⟨(rd_T61 y448 x5_1).f0, wrap64 (x1_1 + 1), (rd_T61 y448 x5_1).f2⟩ : S61) ) (fun _ hk => hk); have hx11_1 := hcc11 1 _ rfl; (try simp only [show (k61).sz = 3 from rfl, Nat.mul_one, Nat.add_zero] at hx11_1); have hf11_1 := hfr11 1; (try simp only [show (k61).sz = 3 from rfl, Nat.mul_one, Nat.add_zero] at hf11_1); clear hcl11 hcc11 hfr11 hM11) | ((with_reducible refine gate_store (t := 3) (p := 23) rfl ?_); refine store_event (t := 3) (p := 23) (v := ?vo_w12) (w1 := (w10.setCell ⟨go5, (x5_1 : Int).toNat * 3 + 1, none⟩ (.int .i64 (wrap64 (x1_1 + 1))))) ?hg ?ho ?hn ?hr ?_; (case ho => rfl); (case hg => rfl); (case hn => rfl); (case hr => first | (go_simp; done) | (go_simp; rfl)); intro w12 hw; have hg : w10.grownBy w12 (some go5) := (by rw [hw]; exact HP11.2); have hp_ : Kd.R k61 61 w12 w0.heap.size (fun k_ => (P0_ k_ ∨ w.heap.size ≤ k_)) (.slice (some ⟨go5, 0, none⟩) x0_1.length co8) y449 := (by rw [hw, Ny449.out]; exact HP11.1); clear HP11; have n0_ := Aside0.mk (hp_); have n1_ := Aside0.mk ((by rw [hw]; exact below_set (HB.out) GB5.out : Below w0.heap.size w0 w12)); have n2_ := Aside0.mk (Kept.of_grown (S := (fun k_ => P0_ k_)) hg (by repeat (first | (with_reducible first | exact HK.out | apply Kept.alloc | apply Kept.drewN | apply Kept.drew) | exact HK.out)) (fun k_ e_ => (HO_0.out.1 k_ e_))); clear HO_0; clear HB; clear HK; have HO_0 := n0_; have HB := n1_; have HK := n2_; clear n0_ n1_ n2_; clear hg hw hp_; have p7 : 0 ≤ (x5_1 : Int) := of_decide_eq_true (by first | (with_reducible assumption) | assumption); have q7 : (x5_1 : Int) < ((x0_1.length : Int) : Int) := of_decide_eq_true (by first | (with_reducible assumption) | assumption); obtain ⟨ce7, hcl7, hM7, hcc7, hfr7⟩ := Kd.R_elem HO_0.out z61 (x5_1 : Int) p7 q7; obtain rfl := k61_openM hM7; have hx7_0 : w12.cell? ⟨go5, (x5_1 : Int).toNat * 3, none⟩ = some (.int .i64 ((rd_T61 y449 x5_1).f0)) := hcc7 0 _ rfl; have hx7_1 : w12.cell? ⟨go5, (x5_1 : Int).toNat * 3 + 1, none⟩ = some (.int .i64 ((rd_T61 y449 x5_1).f1)) := hcc7 1 _ rfl; have hx7_2 : w12.cell? ⟨go5, (x5_1 : Int).toNat * 3 + 2, none⟩ = some (.int .i64 ((rd_T61 y449 x5_1).f2)) := hcc7 2 _ rfl; have hf7_0 : w12.frozen? ⟨go5, (x5_1 : Int).toNat * 3, none⟩ = false := hfr7 0; have hf7_1 : w12.frozen? ⟨go5, (x5_1 : Int).toNat * 3 + 1, none⟩ = false := hfr7 1; have hf7_2 : w12.frozen? ⟨go5, (x5_1 : Int).toNat * 3 + 2, none⟩ = false := hfr7 2; clear hcl7 hcc7 hfr7 hM7; replace p7 := eq_true p7; replace q7 := eq_true q7; have HX13 := Aside0.mk (show Kd.R k61 61 w12 w0.heap.size (fun k_ => (P0_ k_ ∨ w.heap.size ≤ k_)) (.slice (some ⟨go5, 0, none⟩) x0_1.length co8) y449 from (by (with_reducible repeat (first | apply Kd.R_alloc | apply Kd.R_drewN | apply Kd.R_drew)); exact HO_0.out)); obtain ⟨ce13, hcl13, hM13, hcc13, hfr13⟩ := Kd.R_elem HX13.out z61 (x5_1 : Int) (of_decide_eq_true (by first | (with_reducible assumption) | assumption)) (by have h_ : (x5_1 : Int) < ((x0_1.length : Int) : Int) := of_decide_eq_true (by first | (with_reducible assumption) | assumption); first | exact h_ | (have e_ := (Kd.R_reads' HO_0.out).1; omega) | simpa using h_); obtain rfl := k61_openM hM13; have HP13 := Kd.R_seg HX13.out (x5_1 : Int) (of_decide_eq_true (by first | (with_reducible assumption) | assumption)) (by have h_ : (x5_1 : Int) < ((x0_1.length : Int) : Int) := of_decide_eq_true (by first | (with_reducible assumption) | assumption); first | exact h_ | (have e_ := (Kd.R_reads' HO_0.out).1; omega) | simpa using h_) (seg := [.int .i64 (wrap64 ((wrap64 (x1_1 + 1)) + 1))]) (j := 2) hcl13 hcc13 (show 3 ≤ 3 from by decide) (x' := (⟨(rd_T61 y449 x5_1).f0, (rd_T61 y449 x5_1).f1, wrap64 ((wrap64 (x1_1 + 1)) + 1)⟩ : S61)) (k61_mkM _ _ _ (⟨(rd_T61 y449 x5_1).f0, (rd_T61 y449 x5_1).f1, wrap64 ((wrap64 (x1_1 + 1)) + 1)⟩ : S61) ) (fun _ hk => hk); have hx13_2 := hcc13 2 _ rfl; (try simp only [show (k61).sz = 3 from rfl, Nat.mul_one, Nat.add_zero] at hx13_2); have hf13_2 := hfr13 2; (try simp only [show (k61).sz = 3 from rfl, Nat.mul_one, Nat.add_zero] at hf13_2); clear hcl13 hcc13 hfr13 hM13) | ((with_reducible refine gate_store (t := 3) (p := 30) rfl ?_); refine store_event (t := 3) (p := 30) (v := ?vo_w14) (w1 := (w12.setCell ⟨go5, (x5_1 : Int).toNat * 3 + 2, none⟩ (.int .i64 (wrap64 ((wrap64 (x1_1 + 1)) + 1))))) ?hg ?ho ?hn ?hr ?_; (case ho => rfl); (case hg => rfl); (case hn => rfl); (case hr => first | (go_simp; done) | (go_simp; rfl)); intro w14 hw; have hg : w12.grownBy w14 (some go5) := (by rw [hw]; exact HP13.2); have hp_ : Kd.R k61 61 w14 w0.heap.size (fun k_ => (P0_ k_ ∨ w.heap.size ≤ k_)) (.slice (some ⟨go5, 0, none⟩) x0_1.length co8) y450 := (by rw [hw, Ny450.out]; exact HP13.1); clear HP13; have n0_ := Aside0.mk (hp_); have n1_ := Aside0.mk ((by rw [hw]; exact below_set (HB.out) GB5.out : Below w0.heap.size w0 w14)); have n2_ := Aside0.mk (Kept.of_grown (S := (fun k_ => P0_ k_)) hg (by repeat (first | (with_reducible first | exact HK.out | apply Kept.alloc | apply Kept.drewN | apply Kept.drew) | exact HK.out)) (fun k_ e_ => (HO_0.out.1 k_ e_))); clear HO_0; clear HB; clear HK; have HO_0 := n0_; have HB := n1_; have HK := n2_; clear n0_ n1_ n2_; clear hg hw hp_))
     go_roundg k1
     case measure => have := HK1.out; omega
     case rel => exact ⟨(y450), (wrap64 ((wrap64 ((wrap64 (x1_1 + 1)) + 1)) + 1)), (wrap64 (x5_1 + 1)), (by first | rfl | (simp; done) | (simp [*]; done)), (by first | rfl | (simp; done) | (simp [*]; done)), H', ⟨by have := HK1.out; omega⟩, ⟨by (with_reducible repeat (first | apply Kd.R_alloc | apply Kd.R_drewN | apply Kd.R_drew)); exact HO_0.out⟩, ⟨by repeat (first | (with_reducible first | exact HK.out | apply Kept.alloc | apply Kept.drewN | apply Kept.drew) | exact HK.out)⟩, ⟨by repeat (first | (with_reducible first | exact HB.out | apply below_alloc | apply pw_below_drewN | apply below_drew1) | exact HB.out)⟩⟩
    ·
     rw [if_neg c4] at H
     exact absurd H (by simp)
   ·
    rw [if_neg c3] at H
    have c3b0 : decide (x5_1 < (x0_1.length : Int)) = false := decide_eq_false c3
    clear c3
    simp only [Option.some.injEq, Prod.mk.injEq] at H
    obtain ⟨rfl, rfl⟩ := H
    obtain ⟨Ao15, co15, eo15⟩ := Kd.R_slice HO_0.out
    subst eo15
    go_wp2
    go_ret
    exact ⟨by first | rfl | (simp [errW_none, errW_some] <;> rfl) | (simp [*, errW_none, errW_some] <;> rfl), by (with_reducible repeat (first | apply Kd.R_alloc | apply Kd.R_drewN | apply Kd.R_drew)); exact HO_0.out, by repeat (first | (with_reducible first | exact HB.out | apply below_alloc | apply pw_below_drewN | apply below_drew1) | exact HB.out), by repeat (first | (with_reducible first | exact HK.out | apply Kept.alloc | apply Kept.drewN | apply Kept.drew) | exact HK.out)⟩
def laws_markIntS.l0 : Nat → List Int → Int → Int → Option (Int × List Int)
 | 0, _, _, _ => none
 | k + 1, x0, x1, x5 => if x5 < (x0.length : Int) then (if 0 ≤ x5 then (laws_markIntS.l0 k (x0.set (x5 : Int).toNat x1) (wrap64 (x1 + 1)) (wrap64 (x5 + 1))) else (none)) else (some (x1, x0))
def laws_markIntS.f (k : Nat) (l0 : List Int) (a1 : Int) : Option (Int × List Int) := laws_markIntS.l0 k l0 a1 0
set_option maxHeartbeats 8000000 in
set_option maxRecDepth 100000 in
theorem laws_markIntS.calls (k : Nat) (P0_ : Nat → Prop) (u9000_ : Value) (l0 : List Int) (a1 : Int) (r1 : Int) (r2 : List Int) (w0 w : World) (hB : Below w0.heap.size w0 w) (ho0 : Kd.R (Kd.int .i64) 3 w w0.heap.size P0_ u9000_ l0) (h : laws_markIntS.f k l0 a1 = some (r1, r2)) :
 Calls Try.prog 35 #[u9000_, .int .i64 a1] w fun e w' => e = .returned (.int .i64 r1) ∧ Kd.R (Kd.int .i64) 3 w' w0.heap.size (fun k_ => (P0_ k_ ∨ w.heap.size ≤ k_)) u9000_ r2 ∧ Below w0.heap.size w0 w' ∧ Kept w w' (fun k_ => P0_ k_) := by
 have HO0 := Aside0.mk (show Kd.R (Kd.int .i64) 3 w w0.heap.size (fun k_ => (P0_ k_ ∨ w.heap.size ≤ k_)) u9000_ l0 from Kd.R_mono ho0 (fun k_ hk => (.inl hk)))
 have HK := Aside0.mk (Kept.refl w (fun k_ => P0_ k_))
 have HW0 := Aside0.mk hB.size
 have HB := Aside0.mk hB
 clear hB
 have H : (laws_markIntS.l0 k l0 a1 0) = some (r1, r2) := h
 clear h
 have H' := Aside0.mk H
 clear H
 go_enter Try.func35, Try.ntmps35
 go_wp2
 go_loopg [1, 5] k (fun kq v1 v5 w' => ∃ (x0_1 : List Int) (x1_1 : Int) (x5_1 : Int), v1 = .int .i64 x1_1 ∧ v5 = .int .i64 x5_1 ∧ Aside0 (laws_markIntS.l0 kq x0_1 x1_1 x5_1 = some (r1, r2)) ∧ Aside0 (kq ≤ k) ∧ Aside0 (Kd.R (Kd.int .i64) 3 w' w0.heap.size (fun k_ => (P0_ k_ ∨ w.heap.size ≤ k_)) u9000_ x0_1) ∧ Aside0 (Kept w w' (fun k_ => P0_ k_)) ∧ Aside0 (Below w0.heap.size w0 w'))
 case atStart => exact ⟨(l0), (a1), (0), (by first | rfl | (simp; done) | (simp [*]; done)), (by first | rfl | (simp; done) | (simp [*]; done)), H', ⟨Nat.le_refl _⟩, ⟨by (with_reducible repeat (first | apply Kd.R_alloc | apply Kd.R_drewN | apply Kd.R_drew)); exact HO0.out⟩, ⟨by repeat (first | (with_reducible first | exact HK.out | apply Kept.alloc | apply Kept.drewN | apply Kept.drew) | exact HK.out)⟩, ⟨by repeat (first | (with_reducible first | exact HB.out | apply below_alloc | apply pw_below_drewN | apply below_drew1) | exact HB.out)⟩⟩
 case round =>
  clear H'
  try clear p2
  obtain ⟨x0_1, x1_1, x5_1, rfl, rfl, HA, HK1, HO_0, HK, HB⟩ := hrel
  cases gk with
  | zero => exact absurd HA.out (by simp [laws_markIntS.l0])
  | succ k1 =>
   have H := HA.out
   clear HA
   simp only [laws_markIntS.l0] at H
   by_cases c3 : x5_1 < (x0_1.length : Int)
   ·
    rw [if_pos c3] at H
    have c3b0 : decide (x5_1 < (x0_1.length : Int)) = true := decide_eq_true c3
    clear c3
    by_cases c4 : 0 ≤ x5_1
    ·
     rw [if_pos c4] at H
     have c4b0 : decide (0 ≤ x5_1) = true := decide_eq_true c4
     clear c4
     obtain ⟨y451, hy451⟩ : ∃ y_ : List Int, y_ = (x0_1.set (x5_1 : Int).toNat x1_1) := ⟨_, rfl⟩
     replace H : (laws_markIntS.l0 k1 y451 (wrap64 (x1_1 + 1)) (wrap64 (x5_1 + 1))) = some (r1, r2) := by first | (rw [hy451]; with_reducible exact H) | (have H2_ := (Option.bind_some _ _).symm.trans H; rw [hy451]; with_reducible exact H2_) | (have H2_ := (Option.bind_some _ _).symm.trans H; with_reducible exact H2_) | with_reducible exact H | (rw [hy451]; exact H) | exact H
     have Ny451 := Aside0.mk hy451
     clear hy451
     have H' := Aside0.mk H
     clear H
     obtain ⟨Ao6, co6, eo6⟩ := Kd.R_slice HO_0.out
     subst eo6
     have p5 : 0 ≤ (x5_1 : Int) := of_decide_eq_true (by first | (with_reducible assumption) | assumption)
     have q5 : (x5_1 : Int) < ((x0_1.length : Int) : Int) := of_decide_eq_true (by first | (with_reducible assumption) | assumption)
     obtain ⟨go5, co5, eo5, gb5, gl5, cl5, HG5⟩ := Kd.R_form HO_0.out (by omega)
     (first | cases eo5 | (injection eo5 with ea_ en_ ec_; (first | subst ea_ | (injection ea_ with ea_; subst ea_)); subst ec_; clear en_))
     have GB5 := Aside0.mk gb5
     have GG5 := Aside0.mk HG5
     clear gb5 gl5 HG5
     have HMgo5 := Aside0.mk (show (P0_ go5 ∨ w.heap.size ≤ go5) from (HO_0.out.1 _ rfl))
     obtain ⟨hx5_0, hf5_0⟩ := Kd.R_celln 0 HO_0.out (x5_1 : Int) p5 q5
     replace p5 := eq_true p5
     replace q5 := eq_true q5
     have HP7 := Kd.R_putg HO_0.out (x5_1 : Int) x1_1
     go_wp2_with (first | ((with_reducible refine gate_store (t := 3) (p := 15) rfl ?_); refine store_event (t := 3) (p := 15) (v := ?vo_w8) (w1 := (wr.setCell ⟨go5, (x5_1 : Int).toNat, none⟩ (.int .i64 x1_1))) ?hg ?ho ?hn ?hr ?_; (case ho => rfl); (case hg => rfl); (case hn => rfl); (case hr => first | (go_simp; done) | (go_simp; rfl)); intro w8 hw; have hg : wr.grownBy w8 (some go5) := (by rw [hw]; exact HP7.2); have hp_ : Kd.R (Kd.int .i64) 3 w8 w0.heap.size (fun k_ => (P0_ k_ ∨ w.heap.size ≤ k_)) (.slice (some ⟨go5, 0, none⟩) x0_1.length co6) y451 := (by rw [hw, Ny451.out]; exact HP7.1); clear HP7; have n0_ := Aside0.mk (hp_); have n1_ := Aside0.mk ((by rw [hw]; exact below_set (HB.out) GB5.out : Below w0.heap.size w0 w8)); have n2_ := Aside0.mk (Kept.of_grown (S := (fun k_ => P0_ k_)) hg (by repeat (first | (with_reducible first | exact HK.out | apply Kept.alloc | apply Kept.drewN | apply Kept.drew) | exact HK.out)) (fun k_ e_ => (HO_0.out.1 k_ e_))); clear HO_0; clear HB; clear HK; have HO_0 := n0_; have HB := n1_; have HK := n2_; clear n0_ n1_ n2_; clear hg hw hp_))
     go_roundg k1
     case measure => have := HK1.out; omega
     case rel => exact ⟨(y451), (wrap64 (x1_1 + 1)), (wrap64 (x5_1 + 1)), (by first | rfl | (simp; done) | (simp [*]; done)), (by first | rfl | (simp; done) | (simp [*]; done)), H', ⟨by have := HK1.out; omega⟩, ⟨by (with_reducible repeat (first | apply Kd.R_alloc | apply Kd.R_drewN | apply Kd.R_drew)); exact HO_0.out⟩, ⟨by repeat (first | (with_reducible first | exact HK.out | apply Kept.alloc | apply Kept.drewN | apply Kept.drew) | exact HK.out)⟩, ⟨by repeat (first | (with_reducible first | exact HB.out | apply below_alloc | apply pw_below_drewN | apply below_drew1) | exact HB.out)⟩⟩
    ·
     rw [if_neg c4] at H
     exact absurd H (by simp)
   ·
    rw [if_neg c3] at H
    have c3b0 : decide (x5_1 < (x0_1.length : Int)) = false := decide_eq_false c3
    clear c3
    simp only [Option.some.injEq, Prod.mk.injEq] at H
    obtain ⟨rfl, rfl⟩ := H
    obtain ⟨Ao9, co9, eo9⟩ := Kd.R_slice HO_0.out
    subst eo9
    go_wp2
    go_ret
    exact ⟨by first | rfl | (simp [errW_none, errW_some] <;> rfl) | (simp [*, errW_none, errW_some] <;> rfl), by (with_reducible repeat (first | apply Kd.R_alloc | apply Kd.R_drewN | apply Kd.R_drew)); exact HO_0.out, by repeat (first | (with_reducible first | exact HB.out | apply below_alloc | apply pw_below_drewN | apply below_drew1) | exact HB.out), by repeat (first | (with_reducible first | exact HK.out | apply Kept.alloc | apply Kept.drewN | apply Kept.drew) | exact HK.out)⟩
end Go.Proofs.Ytpcjpjjkaplebaa.P
namespace Go.Proofs.Ytpcjpjjkaplebaa.P
open Go.RowKit Go.Proofs.YtpcjpjjkaplebaaW.PrintWords Go.Proofs.YtpcjpjjkaplebaaW.PrintLast Go.Proofs.YtpcjpjjkaplebaaW.PrintMore
attribute [local go_sem] max2_int min2_int max_two min_two max_three min_three max_four min_four   -- for this text's walks alone
set_option linter.unusedVariables false
set_option linter.unusedSimpArgs false
mutual
def laws_FnExactBalsPost.j0 : Nat → List (S66) → List (S70) → List Int → List (S58) → Int → List (S58) → List (S61) → List Int → List (S58) → Int → Bool → Option (Bool)
 | 0, _, _, _, _, _, _, _, _, _, _, _ => none
 | k + 1, x0, x1, x2, x8, x9, x10, x11, x12, x13, x14, x64 => if x64 = true then (none) else ((laws_toBalS.f k x0).bind fun t481 => ((laws_eqBalS.f k x10 t481).bind fun t484 => (if t484 = true then ((laws_toLegS.f k x1).bind fun t485 => ((laws_eqLegS.f k x11 t485).bind fun t488 => (if t488 = true then ((laws_toIntS.f k x2).bind fun t489 => ((laws_eqIntS.f k x12 t489).bind fun t492 => (if t492 = true then ((laws_markBalS.f k x10 1).bind fun bt493 => ((laws_markLegS.f k x11 bt493.1).bind fun bt495 => ((laws_markIntS.f k x12 bt495.1).bind fun bt497 => (if bt497.1 < 0 then (none) else ((laws_eqBalS.f k x13 x8).bind fun t499 => (if t499 = true then (laws_FnExactBalsPost.j1 k x0 x1 x2 x8 x9 x13 (x14 != x9)) else (none))))))) else (none)))) else (none)))) else (none))))
def laws_FnExactBalsPost.j1 : Nat → List (S66) → List (S70) → List Int → List (S58) → Int → List (S58) → Bool → Option (Bool)
 | 0, _, _, _, _, _, _, _ => none
 | k + 1, x0, x1, x2, x8, x9, x13, x101 => if x101 = true then (none) else ((laws_markBalS.f k x13 1).bind fun bt500 => ((laws_heldBalS.f k bt500.2 1).bind fun t502 => (if t502 < 0 then (none) else (if t502 = bt500.1 then ((laws_toBalS.f k x0).bind fun t503 => ((laws_toLegS.f k x1).bind fun t506 => ((laws_toIntS.f k x2).bind fun t509 => ((impl_BalsPost.f k t503 t506 t509).bind fun bt512 => ((laws_eqBalS.f k bt512.1 x8).bind fun t516 => (if t516 = true then (laws_FnExactBalsPost.j2 k bt500.2 bt500.1 (bt512.2 != x9)) else (none))))))) else (none)))))
def laws_FnExactBalsPost.j2 : Nat → List (S58) → Int → Bool → Option (Bool)
 | 0, _, _, _ => none
 | k + 1, x13, x16, x131 => if x131 = true then (none) else ((laws_heldBalS.f k x13 1).bind fun t517 => (if t517 < 0 then (none) else (if t517 = x16 then (some true) else (none))))
end
def laws_FnExactBalsPost.f (k : Nat) (l0 : List (S66)) (l1 : List (S70)) (l2 : List Int) : Option (Bool) := if (l2.length : Int) > 1048576 then (some true) else ((laws_szBalS.f l0 1048576).bind fun t452 => (if t452 < 0 then (some true) else ((laws_szLegS.f l1 t452).bind fun t453 => (if t453 < 0 then (some true) else ((laws_toBalS.f k l0).bind fun t454 => ((laws_toLegS.f k l1).bind fun t457 => ((laws_toIntS.f k l2).bind fun t460 => ((spec_BalsPost.f k t454 t457 t460).bind fun bt463 => ((laws_toBalS.f k l0).bind fun t467 => ((laws_toLegS.f k l1).bind fun t470 => ((laws_toIntS.f k l2).bind fun t473 => ((impl_BalsPost.f k t467 t470 t473).bind fun bt476 => ((laws_eqBalS.f k bt476.1 bt463.1).bind fun t480 => (if t480 = true then (laws_FnExactBalsPost.j0 k l0 l1 l2 bt463.1 bt463.2 t467 t470 t473 bt476.1 bt476.2 (bt476.2 != bt463.2)) else (none)))))))))))))))
set_option maxHeartbeats 8000000 in
set_option maxRecDepth 100000 in
theorem laws_FnExactBalsPost.calls (k : Nat) (A0 : Option Addr) (c0 : Nat) (l0 : List (S66)) (A1 : Option Addr) (c1 : Nat) (l1 : List (S70)) (A2 : Option Addr) (c2 : Nat) (l2 : List Int) (r : Bool) (w : World) (hr0 : Kd.C k66 w A0 l0.length l0) (hc0 : l0.length ≤ c0) (hr1 : Kd.C k70 w A1 l1.length l1) (hc1 : l1.length ≤ c1) (hr2 : Kd.C (Kd.int .i64) w A2 l2.length l2) (hc2 : l2.length ≤ c2) (h : laws_FnExactBalsPost.f k l0 l1 l2 = some r) :
 Calls Try.prog 8 #[.slice A0 l0.length c0, .slice A1 l1.length c1, .slice A2 l2.length c2] w fun e w' => e = .returned (.bool r) ∧ Below w.heap.size w w' := by
 have HR0 := Aside0.mk hr0
 have HC0 := Aside0.mk hc0
 clear hr0 hc0
 have HR1 := Aside0.mk hr1
 have HC1 := Aside0.mk hc1
 clear hr1 hc1
 have HR2 := Aside0.mk hr2
 have HC2 := Aside0.mk hc2
 clear hr2 hc2
 have HB := Aside0.mk (Below.refl w.heap.size w)
 have H : (if (l2.length : Int) > 1048576 then (some true) else ((laws_szBalS.f l0 1048576).bind fun t452 => (if t452 < 0 then (some true) else ((laws_szLegS.f l1 t452).bind fun t453 => (if t453 < 0 then (some true) else ((laws_toBalS.f k l0).bind fun t454 => ((laws_toLegS.f k l1).bind fun t457 => ((laws_toIntS.f k l2).bind fun t460 => ((spec_BalsPost.f k t454 t457 t460).bind fun bt463 => ((laws_toBalS.f k l0).bind fun t467 => ((laws_toLegS.f k l1).bind fun t470 => ((laws_toIntS.f k l2).bind fun t473 => ((impl_BalsPost.f k t467 t470 t473).bind fun bt476 => ((laws_eqBalS.f k bt476.1 bt463.1).bind fun t480 => (if t480 = true then (laws_FnExactBalsPost.j0 k l0 l1 l2 bt463.1 bt463.2 t467 t470 t473 bt476.1 bt476.2 (bt476.2 != bt463.2)) else (none)))))))))))))))) = some r := h
 clear h
 by_cases c4 : (l2.length : Int) > 1048576
 ·
  rw [if_pos c4] at H
  have c4b0 : decide (1048576 < (l2.length : Int)) = true := decide_eq_true c4
  have c4b1 : decide (1048576 < l2.length) = true := decide_eq_true (by omega)
  clear c4
  obtain rfl := Option.some.inj H
  go_enter Try.func8, Try.ntmps8
  go_wp2
  go_ret
  exact ⟨by first | rfl | (simp [errW_none, errW_some] <;> rfl) | (simp [*, errW_none, errW_some] <;> rfl), by repeat (first | (with_reducible first | exact HB.out | apply below_alloc | apply pw_below_drewN | apply below_drew1) | exact HB.out)⟩
 ·
  rw [if_neg c4] at H
  have c4b0 : decide (1048576 < (l2.length : Int)) = false := decide_eq_false c4
  have c4b1 : decide (1048576 < l2.length) = false := decide_eq_false (by omega)
  clear c4
  replace H := Option.bind_eq_some_iff.mp H
  obtain ⟨t452, A50, H⟩ := H
  replace H : (if t452 < 0 then (some true) else ((laws_szLegS.f l1 t452).bind fun t453 => (if t453 < 0 then (some true) else ((laws_toBalS.f k l0).bind fun t454 => ((laws_toLegS.f k l1).bind fun t457 => ((laws_toIntS.f k l2).bind fun t460 => ((spec_BalsPost.f k t454 t457 t460).bind fun bt463 => ((laws_toBalS.f k l0).bind fun t467 => ((laws_toLegS.f k l1).bind fun t470 => ((laws_toIntS.f k l2).bind fun t473 => ((impl_BalsPost.f k t467 t470 t473).bind fun bt476 => ((laws_eqBalS.f k bt476.1 bt463.1).bind fun t480 => (if t480 = true then (laws_FnExactBalsPost.j0 k l0 l1 l2 bt463.1 bt463.2 t467 t470 t473 bt476.1 bt476.2 (bt476.2 != bt463.2)) else (none)))))))))))))) = some r := H
  have A5 := Aside0.mk A50
  clear A50
  by_cases c6 : t452 < 0
  ·
   rw [if_pos c6] at H
   have c6b0 : decide (t452 < 0) = true := decide_eq_true c6
   clear c6
   obtain rfl := Option.some.inj H
   go_enter Try.func8, Try.ntmps8
   go_wp2_with (first | ((with_reducible refine gate_callee (f := 12) rfl ?_); refine goesL_ (some 25) rfl rfl Try.func12 (by kernel_rfl) rfl #[.slice A0 l0.length c0, .int .i64 1048576] rfl (by (try simp only [List.map_toArray, List.map_cons, List.map_nil]); first | done | rfl | (simp only [List.length_drop, List.length_take]; rfl)) ?_; (with_reducible refine (laws_szBalS.calls _ _ l0 1048576 t452 _ ?side1 ?side2 A5.out).mono ?_); (case side1 => repeat (first | exact HR0.out | (with_reducible refine Kd.C_alloc ?_ _) | (with_reducible refine Kd.C_drewN ?_ _) | (with_reducible refine Kd.C_drew ?_))); (case side2 => exact HC0.out); rintro e w' ⟨rfl, ⟨nd, rfl⟩⟩; refine ⟨_, rfl, ?_⟩))
   go_ret
   exact ⟨by first | rfl | (simp [errW_none, errW_some] <;> rfl) | (simp [*, errW_none, errW_some] <;> rfl), by repeat (first | (with_reducible first | exact HB.out | apply below_alloc | apply pw_below_drewN | apply below_drew1) | exact HB.out)⟩
  ·
   rw [if_neg c6] at H
   have c6b0 : decide (t452 < 0) = false := decide_eq_false c6
   clear c6
   replace H := Option.bind_eq_some_iff.mp H
   obtain ⟨t453, A70, H⟩ := H
   replace H : (if t453 < 0 then (some true) else ((laws_toBalS.f k l0).bind fun t454 => ((laws_toLegS.f k l1).bind fun t457 => ((laws_toIntS.f k l2).bind fun t460 => ((spec_BalsPost.f k t454 t457 t460).bind fun bt463 => ((laws_toBalS.f k l0).bind fun t467 => ((laws_toLegS.f k l1).bind fun t470 => ((laws_toIntS.f k l2).bind fun t473 => ((impl_BalsPost.f k t467 t470 t473).bind fun bt476 => ((laws_eqBalS.f k bt476.1 bt463.1).bind fun t480 => (if t480 = true then (laws_FnExactBalsPost.j0 k l0 l1 l2 bt463.1 bt463.2 t467 t470 t473 bt476.1 bt476.2 (bt476.2 != bt463.2)) else (none)))))))))))) = some r := H
   have A7 := Aside0.mk A70
   clear A70
   by_cases c8 : t453 < 0
   ·
    rw [if_pos c8] at H
    have c8b0 : decide (t453 < 0) = true := decide_eq_true c8
    clear c8
    obtain rfl := Option.some.inj H
    go_enter Try.func8, Try.ntmps8
    go_wp2_with (first | ((with_reducible refine gate_callee (f := 12) rfl ?_); refine goesL_ (some 25) rfl rfl Try.func12 (by kernel_rfl) rfl #[.slice A0 l0.length c0, .int .i64 1048576] rfl (by (try simp only [List.map_toArray, List.map_cons, List.map_nil]); first | done | rfl | (simp only [List.length_drop, List.length_take]; rfl)) ?_; (with_reducible refine (laws_szBalS.calls _ _ l0 1048576 t452 _ ?side1 ?side2 A5.out).mono ?_); (case side1 => repeat (first | exact HR0.out | (with_reducible refine Kd.C_alloc ?_ _) | (with_reducible refine Kd.C_drewN ?_ _) | (with_reducible refine Kd.C_drew ?_))); (case side2 => exact HC0.out); rintro e w' ⟨rfl, ⟨nd, rfl⟩⟩; refine ⟨_, rfl, ?_⟩) | ((with_reducible refine gate_callee (f := 17) rfl ?_); refine goesL_ (some 30) rfl rfl Try.func17 (by kernel_rfl) rfl #[.slice A1 l1.length c1, .int .i64 t452] rfl (by (try simp only [List.map_toArray, List.map_cons, List.map_nil]); first | done | rfl | (simp only [List.length_drop, List.length_take]; rfl)) ?_; (with_reducible refine (laws_szLegS.calls _ _ l1 t452 t453 _ ?side1 ?side2 A7.out).mono ?_); (case side1 => repeat (first | exact HR1.out | (with_reducible refine Kd.C_alloc ?_ _) | (with_reducible refine Kd.C_drewN ?_ _) | (with_reducible refine Kd.C_drew ?_))); (case side2 => exact HC1.out); rintro e w' ⟨rfl, ⟨nd, rfl⟩⟩; refine ⟨_, rfl, ?_⟩))
    go_ret
    exact ⟨by first | rfl | (simp [errW_none, errW_some] <;> rfl) | (simp [*, errW_none, errW_some] <;> rfl), by repeat (first | (with_reducible first | exact HB.out | apply below_alloc | apply pw_below_drewN | apply below_drew1) | exact HB.out)⟩
   ·
    rw [if_neg c8] at H
    have c8b0 : decide (t453 < 0) = false := decide_eq_false c8
    clear c8
    replace H := Option.bind_eq_some_iff.mp H
    obtain ⟨t454, A90, H⟩ := H
    replace H : ((laws_toLegS.f k l1).bind fun t457 => ((laws_toIntS.f k l2).bind fun t460 => ((spec_BalsPost.f k t454 t457 t460).bind fun bt463 => ((laws_toBalS.f k l0).bind fun t467 => ((laws_toLegS.f k l1).bind fun t470 => ((laws_toIntS.f k l2).bind fun t473 => ((impl_BalsPost.f k t467 t470 t473).bind fun bt476 => ((laws_eqBalS.f k bt476.1 bt463.1).bind fun t480 => (if t480 = true then (laws_FnExactBalsPost.j0 k l0 l1 l2 bt463.1 bt463.2 t467 t470 t473 bt476.1 bt476.2 (bt476.2 != bt463.2)) else (none)))))))))) = some r := H
    have A9 := Aside0.mk A90
    clear A90
    replace H := Option.bind_eq_some_iff.mp H
    obtain ⟨t457, A100, H⟩ := H
    replace H : ((laws_toIntS.f k l2).bind fun t460 => ((spec_BalsPost.f k t454 t457 t460).bind fun bt463 => ((laws_toBalS.f k l0).bind fun t467 => ((laws_toLegS.f k l1).bind fun t470 => ((laws_toIntS.f k l2).bind fun t473 => ((impl_BalsPost.f k t467 t470 t473).bind fun bt476 => ((laws_eqBalS.f k bt476.1 bt463.1).bind fun t480 => (if t480 = true then (laws_FnExactBalsPost.j0 k l0 l1 l2 bt463.1 bt463.2 t467 t470 t473 bt476.1 bt476.2 (bt476.2 != bt463.2)) else (none))))))))) = some r := H
    have A10 := Aside0.mk A100
    clear A100
    replace H := Option.bind_eq_some_iff.mp H
    obtain ⟨t460, A110, H⟩ := H
    replace H : ((spec_BalsPost.f k t454 t457 t460).bind fun bt463 => ((laws_toBalS.f k l0).bind fun t467 => ((laws_toLegS.f k l1).bind fun t470 => ((laws_toIntS.f k l2).bind fun t473 => ((impl_BalsPost.f k t467 t470 t473).bind fun bt476 => ((laws_eqBalS.f k bt476.1 bt463.1).bind fun t480 => (if t480 = true then (laws_FnExactBalsPost.j0 k l0 l1 l2 bt463.1 bt463.2 t467 t470 t473 bt476.1 bt476.2 (bt476.2 != bt463.2)) else (none)))))))) = some r := H
    have A11 := Aside0.mk A110
    clear A110
    replace H := Option.bind_eq_some_iff.mp H
    obtain ⟨⟨t463, t464⟩, A120, H⟩ := H
    replace H : ((laws_toBalS.f k l0).bind fun t467 => ((laws_toLegS.f k l1).bind fun t470 => ((laws_toIntS.f k l2).bind fun t473 => ((impl_BalsPost.f k t467 t470 t473).bind fun bt476 => ((laws_eqBalS.f k bt476.1 t463).bind fun t480 => (if t480 = true then (laws_FnExactBalsPost.j0 k l0 l1 l2 t463 t464 t467 t470 t473 bt476.1 bt476.2 (bt476.2 != t464)) else (none))))))) = some r := H
    have A12 := Aside0.mk A120
    clear A120
    replace H := Option.bind_eq_some_iff.mp H
    obtain ⟨t467, A130, H⟩ := H
    replace H : ((laws_toLegS.f k l1).bind fun t470 => ((laws_toIntS.f k l2).bind fun t473 => ((impl_BalsPost.f k t467 t470 t473).bind fun bt476 => ((laws_eqBalS.f k bt476.1 t463).bind fun t480 => (if t480 = true then (laws_FnExactBalsPost.j0 k l0 l1 l2 t463 t464 t467 t470 t473 bt476.1 bt476.2 (bt476.2 != t464)) else (none)))))) = some r := H
    have A13 := Aside0.mk A130
    clear A130
    replace H := Option.bind_eq_some_iff.mp H
    obtain ⟨t470, A140, H⟩ := H
    replace H : ((laws_toIntS.f k l2).bind fun t473 => ((impl_BalsPost.f k t467 t470 t473).bind fun bt476 => ((laws_eqBalS.f k bt476.1 t463).bind fun t480 => (if t480 = true then (laws_FnExactBalsPost.j0 k l0 l1 l2 t463 t464 t467 t470 t473 bt476.1 bt476.2 (bt476.2 != t464)) else (none))))) = some r := H
    have A14 := Aside0.mk A140
    clear A140
    replace H := Option.bind_eq_some_iff.mp H
    obtain ⟨t473, A150, H⟩ := H
    replace H : ((impl_BalsPost.f k t467 t470 t473).bind fun bt476 => ((laws_eqBalS.f k bt476.1 t463).bind fun t480 => (if t480 = true then (laws_FnExactBalsPost.j0 k l0 l1 l2 t463 t464 t467 t470 t473 bt476.1 bt476.2 (bt476.2 != t464)) else (none)))) = some r := H
    have A15 := Aside0.mk A150
    clear A150
    replace H := Option.bind_eq_some_iff.mp H
    obtain ⟨⟨t476, t477⟩, A160, H⟩ := H
    replace H : ((laws_eqBalS.f k t476 t463).bind fun t480 => (if t480 = true then (laws_FnExactBalsPost.j0 k l0 l1 l2 t463 t464 t467 t470 t473 t476 t477 (t477 != t464)) else (none))) = some r := H
    have A16 := Aside0.mk A160
    clear A160
    have HC17 := Aside0.mk H
    clear H
    go_enter Try.func8, Try.ntmps8
    go_upto_region 15 with (first | ((with_reducible refine gate_callee (f := 12) rfl ?_); refine goesL_ (some 25) rfl rfl Try.func12 (by kernel_rfl) rfl #[.slice A0 l0.length c0, .int .i64 1048576] rfl (by (try simp only [List.map_toArray, List.map_cons, List.map_nil]); first | done | rfl | (simp only [List.length_drop, List.length_take]; rfl)) ?_; (with_reducible refine (laws_szBalS.calls _ _ l0 1048576 t452 _ ?side1 ?side2 A5.out).mono ?_); (case side1 => repeat (first | exact HR0.out | (with_reducible refine Kd.C_alloc ?_ _) | (with_reducible refine Kd.C_drewN ?_ _) | (with_reducible refine Kd.C_drew ?_))); (case side2 => exact HC0.out); rintro e w' ⟨rfl, ⟨nd, rfl⟩⟩; refine ⟨_, rfl, ?_⟩) | ((with_reducible refine gate_callee (f := 17) rfl ?_); refine goesL_ (some 30) rfl rfl Try.func17 (by kernel_rfl) rfl #[.slice A1 l1.length c1, .int .i64 t452] rfl (by (try simp only [List.map_toArray, List.map_cons, List.map_nil]); first | done | rfl | (simp only [List.length_drop, List.length_take]; rfl)) ?_; (with_reducible refine (laws_szLegS.calls _ _ l1 t452 t453 _ ?side1 ?side2 A7.out).mono ?_); (case side1 => repeat (first | exact HR1.out | (with_reducible refine Kd.C_alloc ?_ _) | (with_reducible refine Kd.C_drewN ?_ _) | (with_reducible refine Kd.C_drew ?_))); (case side2 => exact HC1.out); rintro e w' ⟨rfl, ⟨nd, rfl⟩⟩; refine ⟨_, rfl, ?_⟩) | ((with_reducible refine gate_callee (f := 14) rfl ?_); refine goesL_ (some 35) rfl rfl Try.func14 (by kernel_rfl) rfl #[.slice A0 l0.length c0] rfl (by (try simp only [List.map_toArray, List.map_cons, List.map_nil]); first | done | rfl | (simp only [List.length_drop, List.length_take]; rfl)) ?_; (with_reducible refine (laws_toBalS.calls k _ _ l0 t454 _ ?side1 ?side2 A9.out).mono ?_); (case side1 => repeat (first | exact HR0.out | (with_reducible refine Kd.C_alloc ?_ _) | (with_reducible refine Kd.C_drewN ?_ _) | (with_reducible refine Kd.C_drew ?_))); (case side2 => exact HC0.out); rintro e w18 ⟨v455, rfl, ho0, hb⟩; refine ⟨_, rfl, ?_⟩; have n0_ := Aside0.mk (Kd.R_lower ho0 (below_size (by repeat (first | (with_reducible first | exact HB.out | apply below_alloc | apply pw_below_drewN | apply below_drew1) | exact HB.out)))); have n1_ := Aside0.mk (below_step (by repeat (first | (with_reducible first | exact HB.out | apply below_alloc | apply pw_below_drewN | apply below_drew1) | exact HB.out)) hb); clear HB; have HO456 := n0_; have HB := n1_; clear n0_ n1_; (try clear hb); (try clear hb2); (try clear hk); (try clear hi); (try clear ho0)) | ((with_reducible refine gate_callee (f := 19) rfl ?_); refine goesL_ (some 37) rfl rfl Try.func19 (by kernel_rfl) rfl #[.slice A1 l1.length c1] rfl (by (try simp only [List.map_toArray, List.map_cons, List.map_nil]); first | done | rfl | (simp only [List.length_drop, List.length_take]; rfl)) ?_; (with_reducible refine (laws_toLegS.calls k _ _ l1 t457 _ ?side1 ?side2 A10.out).mono ?_); (case side1 => repeat (first | exact (Kd.C_below HR1.out HB.out) | (with_reducible refine Kd.C_alloc ?_ _) | (with_reducible refine Kd.C_drewN ?_ _) | (with_reducible refine Kd.C_drew ?_))); (case side2 => exact HC1.out); rintro e w19 ⟨v458, rfl, ho0, hb⟩; refine ⟨_, rfl, ?_⟩; have n0_ := Aside0.mk (Kd.R_below (by (with_reducible repeat (first | apply Kd.R_alloc | apply Kd.R_drewN | apply Kd.R_drew)); exact HO456.out) hb); have n1_ := Aside0.mk (Kd.R_lower ho0 (below_size (by repeat (first | (with_reducible first | exact HB.out | apply below_alloc | apply pw_below_drewN | apply below_drew1) | exact HB.out)))); have n2_ := Aside0.mk (below_step (by repeat (first | (with_reducible first | exact HB.out | apply below_alloc | apply pw_below_drewN | apply below_drew1) | exact HB.out)) hb); clear HO456; clear HB; have HO456 := n0_; have HO459 := n1_; have HB := n2_; clear n0_ n1_ n2_; (try clear hb); (try clear hb2); (try clear hk); (try clear hi); (try clear ho0)) | ((with_reducible refine gate_callee (f := 31) rfl ?_); refine goesL_ (some 39) rfl rfl Try.func31 (by kernel_rfl) rfl #[.slice A2 l2.length c2] rfl (by (try simp only [List.map_toArray, List.map_cons, List.map_nil]); first | done | rfl | (simp only [List.length_drop, List.length_take]; rfl)) ?_; (with_reducible refine (laws_toIntS.calls k _ _ l2 t460 _ ?side1 ?side2 A11.out).mono ?_); (case side1 => repeat (first | exact (Kd.C_below HR2.out HB.out) | (with_reducible refine Kd.C_alloc ?_ _) | (with_reducible refine Kd.C_drewN ?_ _) | (with_reducible refine Kd.C_drew ?_))); (case side2 => exact HC2.out); rintro e w20 ⟨v461, rfl, ho0, hb⟩; refine ⟨_, rfl, ?_⟩; have n0_ := Aside0.mk (Kd.R_below (by (with_reducible repeat (first | apply Kd.R_alloc | apply Kd.R_drewN | apply Kd.R_drew)); exact HO456.out) hb); have n1_ := Aside0.mk (Kd.R_below (by (with_reducible repeat (first | apply Kd.R_alloc | apply Kd.R_drewN | apply Kd.R_drew)); exact HO459.out) hb); have n2_ := Aside0.mk (Kd.R_lower ho0 (below_size (by repeat (first | (with_reducible first | exact HB.out | apply below_alloc | apply pw_below_drewN | apply below_drew1) | exact HB.out)))); have n3_ := Aside0.mk (below_step (by repeat (first | (with_reducible first | exact HB.out | apply below_alloc | apply pw_below_drewN | apply below_drew1) | exact HB.out)) hb); clear HO456; clear HO459; clear HB; have HO456 := n0_; have HO459 := n1_; have HO462 := n2_; have HB := n3_; clear n0_ n1_ n2_ n3_; (try clear hb); (try clear hb2); (try clear hk); (try clear hi); (try clear ho0); obtain ⟨Ao21, co21, eo21⟩ := Kd.R_slice HO456.out; subst eo21; obtain ⟨Ao22, co22, eo22⟩ := Kd.R_slice HO459.out; subst eo22; obtain ⟨Ao23, co23, eo23⟩ := Kd.R_slice HO462.out; subst eo23) | ((with_reducible refine gate_callee (f := 30) rfl ?_); refine goesL_ (some 40) rfl rfl Try.func30 (by kernel_rfl) rfl #[.slice Ao21 t454.length co21, .slice Ao22 t457.length co22, .slice Ao23 t460.length co23] rfl (by (try simp only [List.map_toArray, List.map_cons, List.map_nil]); first | done | rfl | (simp only [List.length_drop, List.length_take]; rfl)) ?_; (with_reducible refine (spec_BalsPost.calls k _ _ t454 _ _ t457 _ _ t460 t463 t464 _ ?side1 ?side2 ?side3 ?side4 ?side5 ?side6 A12.out).mono ?_); (case side1 => repeat (first | exact (Kd.R_reads' HO456.out).2.2 | (with_reducible refine Kd.C_alloc ?_ _) | (with_reducible refine Kd.C_drewN ?_ _) | (with_reducible refine Kd.C_drew ?_))); (case side2 => exact (Kd.R_reads' HO456.out).2.1); (case side3 => repeat (first | exact (Kd.R_reads' HO459.out).2.2 | (with_reducible refine Kd.C_alloc ?_ _) | (with_reducible refine Kd.C_drewN ?_ _) | (with_reducible refine Kd.C_drew ?_))); (case side4 => exact (Kd.R_reads' HO459.out).2.1); (case side5 => repeat (first | exact (Kd.R_reads' HO462.out).2.2 | (with_reducible refine Kd.C_alloc ?_ _) | (with_reducible refine Kd.C_drewN ?_ _) | (with_reducible refine Kd.C_drew ?_))); (case side6 => exact (Kd.R_reads' HO462.out).2.1); rintro e w24 ⟨v465, rfl, ho0, hb⟩; refine ⟨_, rfl, ?_⟩; have n0_ := Aside0.mk (Kd.R_elder' (by (with_reducible repeat (first | apply Kd.R_alloc | apply Kd.R_drewN | apply Kd.R_drew)); exact HO456.out) (Kd.R_base ho0) hb); have n1_ := Aside0.mk (Kd.R_below (by (with_reducible repeat (first | apply Kd.R_alloc | apply Kd.R_drewN | apply Kd.R_drew)); exact HO459.out) hb); have n2_ := Aside0.mk (Kd.R_below (by (with_reducible repeat (first | apply Kd.R_alloc | apply Kd.R_drewN | apply Kd.R_drew)); exact HO462.out) hb); have n3_ := Aside0.mk (Kd.R_lower (Kd.R_new' ho0 (Kd.R_lt (by (with_reducible repeat (first | apply Kd.R_alloc | apply Kd.R_drewN | apply Kd.R_drew)); exact HO456.out))) (below_size (by repeat (first | (with_reducible first | exact HB.out | apply below_alloc | apply pw_below_drewN | apply below_drew1) | exact HB.out)))); have n4_ := Aside0.mk (below_step (by repeat (first | (with_reducible first | exact HB.out | apply below_alloc | apply pw_below_drewN | apply below_drew1) | exact HB.out)) hb); clear HO456; clear HO459; clear HO462; clear HB; have HO456 := n0_; have HO459 := n1_; have HO462 := n2_; have HO466 := n3_; have HB := n4_; clear n0_ n1_ n2_ n3_ n4_; (try clear hb); (try clear hb2); (try clear hk); (try clear hi); (try clear ho0)) | ((with_reducible refine gate_callee (f := 14) rfl ?_); refine goesL_ (some 44) rfl rfl Try.func14 (by kernel_rfl) rfl #[.slice A0 l0.length c0] rfl (by (try simp only [List.map_toArray, List.map_cons, List.map_nil]); first | done | rfl | (simp only [List.length_drop, List.length_take]; rfl)) ?_; (with_reducible refine (laws_toBalS.calls k _ _ l0 t467 _ ?side1 ?side2 A13.out).mono ?_); (case side1 => repeat (first | exact (Kd.C_below HR0.out HB.out) | (with_reducible refine Kd.C_alloc ?_ _) | (with_reducible refine Kd.C_drewN ?_ _) | (with_reducible refine Kd.C_drew ?_))); (case side2 => exact HC0.out); rintro e w25 ⟨v468, rfl, ho0, hb⟩; refine ⟨_, rfl, ?_⟩; have n0_ := Aside0.mk (Kd.R_elder' (by (with_reducible repeat (first | apply Kd.R_alloc | apply Kd.R_drewN | apply Kd.R_drew)); exact HO456.out) (Kd.R_base ho0) hb); have n1_ := Aside0.mk (Kd.R_below (by (with_reducible repeat (first | apply Kd.R_alloc | apply Kd.R_drewN | apply Kd.R_drew)); exact HO459.out) hb); have n2_ := Aside0.mk (Kd.R_below (by (with_reducible repeat (first | apply Kd.R_alloc | apply Kd.R_drewN | apply Kd.R_drew)); exact HO462.out) hb); have n3_ := Aside0.mk (Kd.R_elder' (by (with_reducible repeat (first | apply Kd.R_alloc | apply Kd.R_drewN | apply Kd.R_drew)); exact HO466.out) (Kd.R_base ho0) hb); have n4_ := Aside0.mk (Kd.R_lower (Kd.R_new' (Kd.R_new' ho0 (Kd.R_lt (by (with_reducible repeat (first | apply Kd.R_alloc | apply Kd.R_drewN | apply Kd.R_drew)); exact HO456.out))) (Kd.R_lt (by (with_reducible repeat (first | apply Kd.R_alloc | apply Kd.R_drewN | apply Kd.R_drew)); exact HO466.out))) (below_size (by repeat (first | (with_reducible first | exact HB.out | apply below_alloc | apply pw_below_drewN | apply below_drew1) | exact HB.out)))); have n5_ := Aside0.mk (below_step (by repeat (first | (with_reducible first | exact HB.out | apply below_alloc | apply pw_below_drewN | apply below_drew1) | exact HB.out)) hb); clear HO456; clear HO459; clear HO462; clear HO466; clear HB; have HO456 := n0_; have HO459 := n1_; have HO462 := n2_; have HO466 := n3_; have HO469 := n4_; have HB := n5_; clear n0_ n1_ n2_ n3_ n4_ n5_; (try clear hb); (try clear hb2); (try clear hk); (try clear hi); (try clear ho0)) | ((with_reducible refine gate_callee (f := 19) rfl ?_); refine goesL_ (some 46) rfl rfl Try.func19 (by kernel_rfl) rfl #[.slice A1 l1.length c1] rfl (by (try simp only [List.map_toArray, List.map_cons, List.map_nil]); first | done | rfl | (simp only [List.length_drop, List.length_take]; rfl)) ?_; (with_reducible refine (laws_toLegS.calls k _ _ l1 t470 _ ?side1 ?side2 A14.out).mono ?_); (case side1 => repeat (first | exact (Kd.C_below HR1.out HB.out) | (with_reducible refine Kd.C_alloc ?_ _) | (with_reducible refine Kd.C_drewN ?_ _) | (with_reducible refine Kd.C_drew ?_))); (case side2 => exact HC1.out); rintro e w26 ⟨v471, rfl, ho0, hb⟩; refine ⟨_, rfl, ?_⟩; have n0_ := Aside0.mk (Kd.R_below (by (with_reducible repeat (first | apply Kd.R_alloc | apply Kd.R_drewN | apply Kd.R_drew)); exact HO456.out) hb); have n1_ := Aside0.mk (Kd.R_elder' (by (with_reducible repeat (first | apply Kd.R_alloc | apply Kd.R_drewN | apply Kd.R_drew)); exact HO459.out) (Kd.R_base ho0) hb); have n2_ := Aside0.mk (Kd.R_below (by (with_reducible repeat (first | apply Kd.R_alloc | apply Kd.R_drewN | apply Kd.R_drew)); exact HO462.out) hb); have n3_ := Aside0.mk (Kd.R_below (by (with_reducible repeat (first | apply Kd.R_alloc | apply Kd.R_drewN | apply Kd.R_drew)); exact HO466.out) hb); have n4_ := Aside0.mk (Kd.R_below (by (with_reducible repeat (first | apply Kd.R_alloc | apply Kd.R_drewN | apply Kd.R_drew)); exact HO469.out) hb); have n5_ := Aside0.mk (Kd.R_lower (Kd.R_new' ho0 (Kd.R_lt (by (with_reducible repeat (first | apply Kd.R_alloc | apply Kd.R_drewN | apply Kd.R_drew)); exact HO459.out))) (below_size (by repeat (first | (with_reducible first | exact HB.out | apply below_alloc | apply pw_below_drewN | apply below_drew1) | exact HB.out)))); have n6_ := Aside0.mk (below_step (by repeat (first | (with_reducible first | exact HB.out | apply below_alloc | apply pw_below_drewN | apply below_drew1) | exact HB.out)) hb); clear HO456; clear HO459; clear HO462; clear HO466; clear HO469; clear HB; have HO456 := n0_; have HO459 := n1_; have HO462 := n2_; have HO466 := n3_; have HO469 := n4_; have HO472 := n5_; have HB := n6_; clear n0_ n1_ n2_ n3_ n4_ n5_ n6_; (try clear hb); (try clear hb2); (try clear hk); (try clear hi); (try clear ho0)) | ((with_reducible refine gate_callee (f := 31) rfl ?_); refine goesL_ (some 48) rfl rfl Try.func31 (by kernel_rfl) rfl #[.slice A2 l2.length c2] rfl (by (try simp only [List.map_toArray, List.map_cons, List.map_nil]); first | done | rfl | (simp only [List.length_drop, List.length_take]; rfl)) ?_; (with_reducible refine (laws_toIntS.calls k _ _ l2 t473 _ ?side1 ?side2 A15.out).mono ?_); (case side1 => repeat (first | exact (Kd.C_below HR2.out HB.out) | (with_reducible refine Kd.C_alloc ?_ _) | (with_reducible refine Kd.C_drewN ?_ _) | (with_reducible refine Kd.C_drew ?_))); (case side2 => exact HC2.out); rintro e w27 ⟨v474, rfl, ho0, hb⟩; refine ⟨_, rfl, ?_⟩; have n0_ := Aside0.mk (Kd.R_below (by (with_reducible repeat (first | apply Kd.R_alloc | apply Kd.R_drewN | apply Kd.R_drew)); exact HO456.out) hb); have n1_ := Aside0.mk (Kd.R_below (by (with_reducible repeat (first | apply Kd.R_alloc | apply Kd.R_drewN | apply Kd.R_drew)); exact HO459.out) hb); have n2_ := Aside0.mk (Kd.R_elder' (by (with_reducible repeat (first | apply Kd.R_alloc | apply Kd.R_drewN | apply Kd.R_drew)); exact HO462.out) (Kd.R_base ho0) hb); have n3_ := Aside0.mk (Kd.R_below (by (with_reducible repeat (first | apply Kd.R_alloc | apply Kd.R_drewN | apply Kd.R_drew)); exact HO466.out) hb); have n4_ := Aside0.mk (Kd.R_below (by (with_reducible repeat (first | apply Kd.R_alloc | apply Kd.R_drewN | apply Kd.R_drew)); exact HO469.out) hb); have n5_ := Aside0.mk (Kd.R_below (by (with_reducible repeat (first | apply Kd.R_alloc | apply Kd.R_drewN | apply Kd.R_drew)); exact HO472.out) hb); have n6_ := Aside0.mk (Kd.R_lower (Kd.R_new' ho0 (Kd.R_lt (by (with_reducible repeat (first | apply Kd.R_alloc | apply Kd.R_drewN | apply Kd.R_drew)); exact HO462.out))) (below_size (by repeat (first | (with_reducible first | exact HB.out | apply below_alloc | apply pw_below_drewN | apply below_drew1) | exact HB.out)))); have n7_ := Aside0.mk (below_step (by repeat (first | (with_reducible first | exact HB.out | apply below_alloc | apply pw_below_drewN | apply below_drew1) | exact HB.out)) hb); clear HO456; clear HO459; clear HO462; clear HO466; clear HO469; clear HO472; clear HB; have HO456 := n0_; have HO459 := n1_; have HO462 := n2_; have HO466 := n3_; have HO469 := n4_; have HO472 := n5_; have HO475 := n6_; have HB := n7_; clear n0_ n1_ n2_ n3_ n4_ n5_ n6_ n7_; (try clear hb); (try clear hb2); (try clear hk); (try clear hi); (try clear ho0); obtain ⟨Ao28, co28, eo28⟩ := Kd.R_slice HO469.out; subst eo28; obtain ⟨Ao29, co29, eo29⟩ := Kd.R_slice HO472.out; subst eo29; obtain ⟨Ao30, co30, eo30⟩ := Kd.R_slice HO475.out; subst eo30) | ((with_reducible refine gate_callee (f := 32) rfl ?_); refine goesL_ (some 53) rfl rfl Try.func32 (by kernel_rfl) rfl #[.slice Ao28 t467.length co28, .slice Ao29 t470.length co29, .slice Ao30 t473.length co30] rfl (by (try simp only [List.map_toArray, List.map_cons, List.map_nil]); first | done | rfl | (simp only [List.length_drop, List.length_take]; rfl)) ?_; (with_reducible refine (impl_BalsPost.calls k _ _ t467 _ _ t470 _ _ t473 t476 t477 _ ?side1 ?side2 ?side3 ?side4 ?side5 ?side6 A16.out).mono ?_); (case side1 => repeat (first | exact (Kd.R_reads' HO469.out).2.2 | (with_reducible refine Kd.C_alloc ?_ _) | (with_reducible refine Kd.C_drewN ?_ _) | (with_reducible refine Kd.C_drew ?_))); (case side2 => exact (Kd.R_reads' HO469.out).2.1); (case side3 => repeat (first | exact (Kd.R_reads' HO472.out).2.2 | (with_reducible refine Kd.C_alloc ?_ _) | (with_reducible refine Kd.C_drewN ?_ _) | (with_reducible refine Kd.C_drew ?_))); (case side4 => exact (Kd.R_reads' HO472.out).2.1); (case side5 => repeat (first | exact (Kd.R_reads' HO475.out).2.2 | (with_reducible refine Kd.C_alloc ?_ _) | (with_reducible refine Kd.C_drewN ?_ _) | (with_reducible refine Kd.C_drew ?_))); (case side6 => exact (Kd.R_reads' HO475.out).2.1); rintro e w31 ⟨v478, rfl, ho0, hb⟩; refine ⟨_, rfl, ?_⟩; have n0_ := Aside0.mk (Kd.R_elder' (by (with_reducible repeat (first | apply Kd.R_alloc | apply Kd.R_drewN | apply Kd.R_drew)); exact HO456.out) (Kd.R_base ho0) hb); have n1_ := Aside0.mk (Kd.R_below (by (with_reducible repeat (first | apply Kd.R_alloc | apply Kd.R_drewN | apply Kd.R_drew)); exact HO459.out) hb); have n2_ := Aside0.mk (Kd.R_below (by (with_reducible repeat (first | apply Kd.R_alloc | apply Kd.R_drewN | apply Kd.R_drew)); exact HO462.out) hb); have n3_ := Aside0.mk (Kd.R_elder' (by (with_reducible repeat (first | apply Kd.R_alloc | apply Kd.R_drewN | apply Kd.R_drew)); exact HO466.out) (Kd.R_base ho0) hb); have n4_ := Aside0.mk (Kd.R_elder' (by (with_reducible repeat (first | apply Kd.R_alloc | apply Kd.R_drewN | apply Kd.R_drew)); exact HO469.out) (Kd.R_base ho0) hb); have n5_ := Aside0.mk (Kd.R_below (by (with_reducible repeat (first | apply Kd.R_alloc | apply Kd.R_drewN | apply Kd.R_drew)); exact HO472.out) hb); have n6_ := Aside0.mk (Kd.R_below (by (with_reducible repeat (first | apply Kd.R_alloc | apply Kd.R_drewN | apply Kd.R_drew)); exact HO475.out) hb); have n7_ := Aside0.mk (Kd.R_lower (Kd.R_new' (Kd.R_new' (Kd.R_new' ho0 (Kd.R_lt (by (with_reducible repeat (first | apply Kd.R_alloc | apply Kd.R_drewN | apply Kd.R_drew)); exact HO456.out))) (Kd.R_lt (by (with_reducible repeat (first | apply Kd.R_alloc | apply Kd.R_drewN | apply Kd.R_drew)); exact HO466.out))) (Kd.R_lt (by (with_reducible repeat (first | apply Kd.R_alloc | apply Kd.R_drewN | apply Kd.R_drew)); exact HO469.out))) (below_size (by repeat (first | (with_reducible first | exact HB.out | apply below_alloc | apply pw_below_drewN | apply below_drew1) | exact HB.out)))); have n8_ := Aside0.mk (below_step (by repeat (first | (with_reducible first | exact HB.out | apply below_alloc | apply pw_below_drewN | apply below_drew1) | exact HB.out)) hb); clear HO456; clear HO459; clear HO462; clear HO466; clear HO469; clear HO472; clear HO475; clear HB; have HO456 := n0_; have HO459 := n1_; have HO462 := n2_; have HO466 := n3_; have HO469 := n4_; have HO472 := n5_; have HO475 := n6_; have HO479 := n7_; have HB := n8_; clear n0_ n1_ n2_ n3_ n4_ n5_ n6_ n7_ n8_; (try clear hb); (try clear hb2); (try clear hk); (try clear hi); (try clear ho0)))
    (try simp only [Act.put, List.setIfInBounds_toArray, List.set_cons_zero, List.set_cons_succ])
    go_cut [64] (fun v64 wc => ∃ (kq : Nat) (x64_16 : Bool), v64 = .bool x64_16 ∧ Aside0 (laws_FnExactBalsPost.j0 kq l0 l1 l2 t463 t464 t467 t470 t473 t476 t477 x64_16 = some r) ∧ Aside0 (kq ≤ k) ∧ Aside0 (Kd.R k58 58 wc w.heap.size (fun k_ => some k_ ≠ ((.slice Ao28 t467.length co28) : Value).ownBlock ∧ some k_ ≠ (v478 : Value).ownBlock) v465 t463) ∧ Aside0 (Kd.R k58 58 wc w.heap.size (fun k_ => some k_ ≠ (v465 : Value).ownBlock ∧ some k_ ≠ (v478 : Value).ownBlock) (.slice Ao28 t467.length co28) t467) ∧ Aside0 (Kd.R k61 61 wc w.heap.size (fun _ => True) (.slice Ao29 t470.length co29) t470) ∧ Aside0 (Kd.R (Kd.int .i64) 3 wc w.heap.size (fun _ => True) (.slice Ao30 t473.length co30) t473) ∧ Aside0 (Kd.R k58 58 wc w.heap.size (fun k_ => some k_ ≠ (v465 : Value).ownBlock ∧ some k_ ≠ ((.slice Ao28 t467.length co28) : Value).ownBlock) v478 t476) ∧ Aside0 (Below w.heap.size w wc))
    case first =>
     have H := HC17.out
     clear HC17
     replace H := Option.bind_eq_some_iff.mp H
     obtain ⟨t480, A320, H⟩ := H
     replace H : (if t480 = true then (laws_FnExactBalsPost.j0 k l0 l1 l2 t463 t464 t467 t470 t473 t476 t477 (t477 != t464)) else (none)) = some r := H
     have A32 := Aside0.mk A320
     clear A320
     by_cases c33 : t480 = true
     ·
      subst c33
      have H1 : (laws_FnExactBalsPost.j0 k l0 l1 l2 t463 t464 t467 t470 t473 t476 t477 (t477 != t464)) = some r := by rw [if_pos rfl] at H; exact H
      clear H
      have H := H1
      clear H1
      have H' := Aside0.mk H
      clear H
      obtain ⟨Ao34, co34, eo34⟩ := Kd.R_slice HO479.out
      subst eo34
      obtain ⟨Ao35, co35, eo35⟩ := Kd.R_slice HO466.out
      subst eo35
      go_wp2_with (first | ((with_reducible refine gate_callee (f := 16) rfl ?_); refine goesL_ (some 58) rfl rfl Try.func16 (by kernel_rfl) rfl #[.slice Ao34 t476.length co34, .slice Ao35 t463.length co35] rfl (by (try simp only [List.map_toArray, List.map_cons, List.map_nil]); first | done | rfl | (simp only [List.length_drop, List.length_take]; rfl)) ?_; (with_reducible refine (laws_eqBalS.calls k _ _ t476 _ _ t463 true _ ?side1 ?side2 ?side3 ?side4 A32.out).mono ?_); (case side1 => repeat (first | exact (Kd.R_reads' HO479.out).2.2 | (with_reducible refine Kd.C_alloc ?_ _) | (with_reducible refine Kd.C_drewN ?_ _) | (with_reducible refine Kd.C_drew ?_))); (case side2 => exact (Kd.R_reads' HO479.out).2.1); (case side3 => repeat (first | exact (Kd.R_reads' HO466.out).2.2 | (with_reducible refine Kd.C_alloc ?_ _) | (with_reducible refine Kd.C_drewN ?_ _) | (with_reducible refine Kd.C_drew ?_))); (case side4 => exact (Kd.R_reads' HO466.out).2.1); rintro e w36 ⟨rfl, hb⟩; refine ⟨_, rfl, ?_⟩; have n0_ := Aside0.mk (Kd.R_below (by (with_reducible repeat (first | apply Kd.R_alloc | apply Kd.R_drewN | apply Kd.R_drew)); exact HO456.out) hb); have n1_ := Aside0.mk (Kd.R_below (by (with_reducible repeat (first | apply Kd.R_alloc | apply Kd.R_drewN | apply Kd.R_drew)); exact HO459.out) hb); have n2_ := Aside0.mk (Kd.R_below (by (with_reducible repeat (first | apply Kd.R_alloc | apply Kd.R_drewN | apply Kd.R_drew)); exact HO462.out) hb); have n3_ := Aside0.mk (Kd.R_below (by (with_reducible repeat (first | apply Kd.R_alloc | apply Kd.R_drewN | apply Kd.R_drew)); exact HO466.out) hb); have n4_ := Aside0.mk (Kd.R_below (by (with_reducible repeat (first | apply Kd.R_alloc | apply Kd.R_drewN | apply Kd.R_drew)); exact HO469.out) hb); have n5_ := Aside0.mk (Kd.R_below (by (with_reducible repeat (first | apply Kd.R_alloc | apply Kd.R_drewN | apply Kd.R_drew)); exact HO472.out) hb); have n6_ := Aside0.mk (Kd.R_below (by (with_reducible repeat (first | apply Kd.R_alloc | apply Kd.R_drewN | apply Kd.R_drew)); exact HO475.out) hb); have n7_ := Aside0.mk (Kd.R_below (by (with_reducible repeat (first | apply Kd.R_alloc | apply Kd.R_drewN | apply Kd.R_drew)); exact HO479.out) hb); have n8_ := Aside0.mk (below_step (by repeat (first | (with_reducible first | exact HB.out | apply below_alloc | apply pw_below_drewN | apply below_drew1) | exact HB.out)) hb); clear HO456; clear HO459; clear HO462; clear HO466; clear HO469; clear HO472; clear HO475; clear HO479; clear HB; have HO456 := n0_; have HO459 := n1_; have HO462 := n2_; have HO466 := n3_; have HO469 := n4_; have HO472 := n5_; have HO475 := n6_; have HO479 := n7_; have HB := n8_; clear n0_ n1_ n2_ n3_ n4_ n5_ n6_ n7_ n8_; (try clear hb); (try clear hb2); (try clear hk); (try clear hi)))
      go_meet
      case rel => exact ⟨_, ((t477 != t464)), (by first | rfl | (simp; done) | (simp [*]; done)), H', ⟨by first | omega | exact Nat.le_refl _⟩, ⟨by (with_reducible repeat (first | apply Kd.R_alloc | apply Kd.R_drewN | apply Kd.R_drew)); exact Kd.R_mono HO466.out (fun _ hk => ⟨hk.1.2, hk.2⟩)⟩, ⟨by (with_reducible repeat (first | apply Kd.R_alloc | apply Kd.R_drewN | apply Kd.R_drew)); exact Kd.R_mono HO469.out (fun _ hk => ⟨hk.1.2, hk.2⟩)⟩, ⟨by (with_reducible repeat (first | apply Kd.R_alloc | apply Kd.R_drewN | apply Kd.R_drew)); exact Kd.R_mono HO472.out (fun _ hk => trivial)⟩, ⟨by (with_reducible repeat (first | apply Kd.R_alloc | apply Kd.R_drewN | apply Kd.R_drew)); exact Kd.R_mono HO475.out (fun _ hk => trivial)⟩, ⟨by (with_reducible repeat (first | apply Kd.R_alloc | apply Kd.R_drewN | apply Kd.R_drew)); exact Kd.R_mono HO479.out (fun _ hk => ⟨hk.1.2, hk.2⟩)⟩, ⟨by repeat (first | (with_reducible first | exact HB.out | apply below_alloc | apply pw_below_drewN | apply below_drew1) | exact HB.out)⟩⟩
     ·
      replace c33 := Bool.eq_false_iff.mpr c33
      subst c33
      have H1 : (none) = some r := by rw [if_neg (show ¬ (false = true) by decide)] at H; exact H
      clear H
      have H := H1
      clear H1
      exact absurd H (by simp)
    case rest =>
     clear HC17
     try clear c1
     try clear c2
     try clear p2
     try clear c3
     try clear c4
     try clear c4b0
     try clear c4b1
     try clear c6
     try clear c6b0
     try clear c8
     try clear c8b0
     try clear c12
     try clear c14
     try clear c16
     try clear c17
     try clear c19
     try clear c30
     try clear c31
     try clear c32
     try clear c33
     obtain ⟨kq, x64_16, rfl, HA, HJ16, HO_8, HO_10, HO_11, HO_12, HO_13, HB⟩ := hcut
     cases kq with
     | zero => exact absurd HA.out (by simp [laws_FnExactBalsPost.j0])
     | succ kj16 =>
      have H := HA.out
      clear HA
      simp only [laws_FnExactBalsPost.j0] at H
      by_cases c37 : x64_16 = true
      ·
       subst c37
       have H1 : (none) = some r := by rw [if_pos rfl] at H; exact H
       clear H
       have H := H1
       clear H1
       exact absurd H (by simp)
      ·
       replace c37 := Bool.eq_false_iff.mpr c37
       subst c37
       have H1 : ((laws_toBalS.f kj16 l0).bind fun t481 => ((laws_eqBalS.f kj16 t467 t481).bind fun t484 => (if t484 = true then ((laws_toLegS.f kj16 l1).bind fun t485 => ((laws_eqLegS.f kj16 t470 t485).bind fun t488 => (if t488 = true then ((laws_toIntS.f kj16 l2).bind fun t489 => ((laws_eqIntS.f kj16 t473 t489).bind fun t492 => (if t492 = true then ((laws_markBalS.f kj16 t467 1).bind fun bt493 => ((laws_markLegS.f kj16 t470 bt493.1).bind fun bt495 => ((laws_markIntS.f kj16 t473 bt495.1).bind fun bt497 => (if bt497.1 < 0 then (none) else ((laws_eqBalS.f kj16 t476 t463).bind fun t499 => (if t499 = true then (laws_FnExactBalsPost.j1 kj16 l0 l1 l2 t463 t464 t476 (t477 != t464)) else (none))))))) else (none)))) else (none)))) else (none)))) = some r := by rw [if_neg (show ¬ (false = true) by decide)] at H; exact H
       clear H
       have H := H1
       clear H1
       replace H := Option.bind_eq_some_iff.mp H
       obtain ⟨t481, A380, H⟩ := H
       replace H : ((laws_eqBalS.f kj16 t467 t481).bind fun t484 => (if t484 = true then ((laws_toLegS.f kj16 l1).bind fun t485 => ((laws_eqLegS.f kj16 t470 t485).bind fun t488 => (if t488 = true then ((laws_toIntS.f kj16 l2).bind fun t489 => ((laws_eqIntS.f kj16 t473 t489).bind fun t492 => (if t492 = true then ((laws_markBalS.f kj16 t467 1).bind fun bt493 => ((laws_markLegS.f kj16 t470 bt493.1).bind fun bt495 => ((laws_markIntS.f kj16 t473 bt495.1).bind fun bt497 => (if bt497.1 < 0 then (none) else ((laws_eqBalS.f kj16 t476 t463).bind fun t499 => (if t499 = true then (laws_FnExactBalsPost.j1 kj16 l0 l1 l2 t463 t464 t476 (t477 != t464)) else (none))))))) else (none)))) else (none)))) else (none))) = some r := H
       have A38 := Aside0.mk A380
       clear A380
       replace H := Option.bind_eq_some_iff.mp H
       obtain ⟨t484, A390, H⟩ := H
       replace H : (if t484 = true then ((laws_toLegS.f kj16 l1).bind fun t485 => ((laws_eqLegS.f kj16 t470 t485).bind fun t488 => (if t488 = true then ((laws_toIntS.f kj16 l2).bind fun t489 => ((laws_eqIntS.f kj16 t473 t489).bind fun t492 => (if t492 = true then ((laws_markBalS.f kj16 t467 1).bind fun bt493 => ((laws_markLegS.f kj16 t470 bt493.1).bind fun bt495 => ((laws_markIntS.f kj16 t473 bt495.1).bind fun bt497 => (if bt497.1 < 0 then (none) else ((laws_eqBalS.f kj16 t476 t463).bind fun t499 => (if t499 = true then (laws_FnExactBalsPost.j1 kj16 l0 l1 l2 t463 t464 t476 (t477 != t464)) else (none))))))) else (none)))) else (none)))) else (none)) = some r := H
       have A39 := Aside0.mk A390
       clear A390
       by_cases c40 : t484 = true
       ·
        subst c40
        have H1 : ((laws_toLegS.f kj16 l1).bind fun t485 => ((laws_eqLegS.f kj16 t470 t485).bind fun t488 => (if t488 = true then ((laws_toIntS.f kj16 l2).bind fun t489 => ((laws_eqIntS.f kj16 t473 t489).bind fun t492 => (if t492 = true then ((laws_markBalS.f kj16 t467 1).bind fun bt493 => ((laws_markLegS.f kj16 t470 bt493.1).bind fun bt495 => ((laws_markIntS.f kj16 t473 bt495.1).bind fun bt497 => (if bt497.1 < 0 then (none) else ((laws_eqBalS.f kj16 t476 t463).bind fun t499 => (if t499 = true then (laws_FnExactBalsPost.j1 kj16 l0 l1 l2 t463 t464 t476 (t477 != t464)) else (none))))))) else (none)))) else (none)))) = some r := by rw [if_pos rfl] at H; exact H
        clear H
        have H := H1
        clear H1
        replace H := Option.bind_eq_some_iff.mp H
        obtain ⟨t485, A410, H⟩ := H
        replace H : ((laws_eqLegS.f kj16 t470 t485).bind fun t488 => (if t488 = true then ((laws_toIntS.f kj16 l2).bind fun t489 => ((laws_eqIntS.f kj16 t473 t489).bind fun t492 => (if t492 = true then ((laws_markBalS.f kj16 t467 1).bind fun bt493 => ((laws_markLegS.f kj16 t470 bt493.1).bind fun bt495 => ((laws_markIntS.f kj16 t473 bt495.1).bind fun bt497 => (if bt497.1 < 0 then (none) else ((laws_eqBalS.f kj16 t476 t463).bind fun t499 => (if t499 = true then (laws_FnExactBalsPost.j1 kj16 l0 l1 l2 t463 t464 t476 (t477 != t464)) else (none))))))) else (none)))) else (none))) = some r := H
        have A41 := Aside0.mk A410
        clear A410
        replace H := Option.bind_eq_some_iff.mp H
        obtain ⟨t488, A420, H⟩ := H
        replace H : (if t488 = true then ((laws_toIntS.f kj16 l2).bind fun t489 => ((laws_eqIntS.f kj16 t473 t489).bind fun t492 => (if t492 = true then ((laws_markBalS.f kj16 t467 1).bind fun bt493 => ((laws_markLegS.f kj16 t470 bt493.1).bind fun bt495 => ((laws_markIntS.f kj16 t473 bt495.1).bind fun bt497 => (if bt497.1 < 0 then (none) else ((laws_eqBalS.f kj16 t476 t463).bind fun t499 => (if t499 = true then (laws_FnExactBalsPost.j1 kj16 l0 l1 l2 t463 t464 t476 (t477 != t464)) else (none))))))) else (none)))) else (none)) = some r := H
        have A42 := Aside0.mk A420
        clear A420
        by_cases c43 : t488 = true
        ·
         subst c43
         have H1 : ((laws_toIntS.f kj16 l2).bind fun t489 => ((laws_eqIntS.f kj16 t473 t489).bind fun t492 => (if t492 = true then ((laws_markBalS.f kj16 t467 1).bind fun bt493 => ((laws_markLegS.f kj16 t470 bt493.1).bind fun bt495 => ((laws_markIntS.f kj16 t473 bt495.1).bind fun bt497 => (if bt497.1 < 0 then (none) else ((laws_eqBalS.f kj16 t476 t463).bind fun t499 => (if t499 = true then (laws_FnExactBalsPost.j1 kj16 l0 l1 l2 t463 t464 t476 (t477 != t464)) else (none))))))) else (none)))) = some r := by rw [if_pos rfl] at H; exact H
         clear H
         have H := H1
         clear H1
         replace H := Option.bind_eq_some_iff.mp H
         obtain ⟨t489, A440, H⟩ := H
         replace H : ((laws_eqIntS.f kj16 t473 t489).bind fun t492 => (if t492 = true then ((laws_markBalS.f kj16 t467 1).bind fun bt493 => ((laws_markLegS.f kj16 t470 bt493.1).bind fun bt495 => ((laws_markIntS.f kj16 t473 bt495.1).bind fun bt497 => (if bt497.1 < 0 then (none) else ((laws_eqBalS.f kj16 t476 t463).bind fun t499 => (if t499 = true then (laws_FnExactBalsPost.j1 kj16 l0 l1 l2 t463 t464 t476 (t477 != t464)) else (none))))))) else (none))) = some r := H
         have A44 := Aside0.mk A440
         clear A440
         replace H := Option.bind_eq_some_iff.mp H
         obtain ⟨t492, A450, H⟩ := H
         replace H : (if t492 = true then ((laws_markBalS.f kj16 t467 1).bind fun bt493 => ((laws_markLegS.f kj16 t470 bt493.1).bind fun bt495 => ((laws_markIntS.f kj16 t473 bt495.1).bind fun bt497 => (if bt497.1 < 0 then (none) else ((laws_eqBalS.f kj16 t476 t463).bind fun t499 => (if t499 = true then (laws_FnExactBalsPost.j1 kj16 l0 l1 l2 t463 t464 t476 (t477 != t464)) else (none))))))) else (none)) = some r := H
         have A45 := Aside0.mk A450
         clear A450
         by_cases c46 : t492 = true
         ·
          subst c46
          have H1 : ((laws_markBalS.f kj16 t467 1).bind fun bt493 => ((laws_markLegS.f kj16 t470 bt493.1).bind fun bt495 => ((laws_markIntS.f kj16 t473 bt495.1).bind fun bt497 => (if bt497.1 < 0 then (none) else ((laws_eqBalS.f kj16 t476 t463).bind fun t499 => (if t499 = true then (laws_FnExactBalsPost.j1 kj16 l0 l1 l2 t463 t464 t476 (t477 != t464)) else (none))))))) = some r := by rw [if_pos rfl] at H; exact H
          clear H
          have H := H1
          clear H1
          replace H := Option.bind_eq_some_iff.mp H
          obtain ⟨⟨t493, t494⟩, A470, H⟩ := H
          replace H : ((laws_markLegS.f kj16 t470 t493).bind fun bt495 => ((laws_markIntS.f kj16 t473 bt495.1).bind fun bt497 => (if bt497.1 < 0 then (none) else ((laws_eqBalS.f kj16 t476 t463).bind fun t499 => (if t499 = true then (laws_FnExactBalsPost.j1 kj16 l0 l1 l2 t463 t464 t476 (t477 != t464)) else (none)))))) = some r := H
          have A47 := Aside0.mk A470
          clear A470
          replace H := Option.bind_eq_some_iff.mp H
          obtain ⟨⟨t495, t496⟩, A480, H⟩ := H
          replace H : ((laws_markIntS.f kj16 t473 t495).bind fun bt497 => (if bt497.1 < 0 then (none) else ((laws_eqBalS.f kj16 t476 t463).bind fun t499 => (if t499 = true then (laws_FnExactBalsPost.j1 kj16 l0 l1 l2 t463 t464 t476 (t477 != t464)) else (none))))) = some r := H
          have A48 := Aside0.mk A480
          clear A480
          replace H := Option.bind_eq_some_iff.mp H
          obtain ⟨⟨t497, t498⟩, A490, H⟩ := H
          replace H : (if t497 < 0 then (none) else ((laws_eqBalS.f kj16 t476 t463).bind fun t499 => (if t499 = true then (laws_FnExactBalsPost.j1 kj16 l0 l1 l2 t463 t464 t476 (t477 != t464)) else (none)))) = some r := H
          have A49 := Aside0.mk A490
          clear A490
          have HC50 := Aside0.mk H
          clear H
          go_upto_region 27 with (first | ((with_reducible refine gate_callee (f := 14) rfl ?_); refine goesL_ (some 67) rfl rfl Try.func14 (by kernel_rfl) rfl #[.slice A0 l0.length c0] rfl (by (try simp only [List.map_toArray, List.map_cons, List.map_nil]); first | done | rfl | (simp only [List.length_drop, List.length_take]; rfl)) ?_; (with_reducible refine (laws_toBalS.calls kj16 _ _ l0 t481 _ ?side1 ?side2 A38.out).mono ?_); (case side1 => repeat (first | exact (Kd.C_below HR0.out HB.out) | (with_reducible refine Kd.C_alloc ?_ _) | (with_reducible refine Kd.C_drewN ?_ _) | (with_reducible refine Kd.C_drew ?_))); (case side2 => exact HC0.out); rintro e w51 ⟨v482, rfl, ho0, hb⟩; refine ⟨_, rfl, ?_⟩; have n0_ := Aside0.mk (Kd.R_elder' (by (with_reducible repeat (first | apply Kd.R_alloc | apply Kd.R_drewN | apply Kd.R_drew)); exact HO_8.out) (Kd.R_base ho0) hb); have n1_ := Aside0.mk (Kd.R_elder' (by (with_reducible repeat (first | apply Kd.R_alloc | apply Kd.R_drewN | apply Kd.R_drew)); exact HO_10.out) (Kd.R_base ho0) hb); have n2_ := Aside0.mk (Kd.R_below (by (with_reducible repeat (first | apply Kd.R_alloc | apply Kd.R_drewN | apply Kd.R_drew)); exact HO_11.out) hb); have n3_ := Aside0.mk (Kd.R_below (by (with_reducible repeat (first | apply Kd.R_alloc | apply Kd.R_drewN | apply Kd.R_drew)); exact HO_12.out) hb); have n4_ := Aside0.mk (Kd.R_elder' (by (with_reducible repeat (first | apply Kd.R_alloc | apply Kd.R_drewN | apply Kd.R_drew)); exact HO_13.out) (Kd.R_base ho0) hb); have n5_ := Aside0.mk (Kd.R_lower (Kd.R_new' (Kd.R_new' (Kd.R_new' ho0 (Kd.R_lt (by (with_reducible repeat (first | apply Kd.R_alloc | apply Kd.R_drewN | apply Kd.R_drew)); exact HO_8.out))) (Kd.R_lt (by (with_reducible repeat (first | apply Kd.R_alloc | apply Kd.R_drewN | apply Kd.R_drew)); exact HO_10.out))) (Kd.R_lt (by (with_reducible repeat (first | apply Kd.R_alloc | apply Kd.R_drewN | apply Kd.R_drew)); exact HO_13.out))) (below_size (by repeat (first | (with_reducible first | exact HB.out | apply below_alloc | apply pw_below_drewN | apply below_drew1) | exact HB.out)))); have n6_ := Aside0.mk (below_step (by repeat (first | (with_reducible first | exact HB.out | apply below_alloc | apply pw_below_drewN | apply below_drew1) | exact HB.out)) hb); clear HO_8; clear HO_10; clear HO_11; clear HO_12; clear HO_13; clear HB; have HO_8 := n0_; have HO_10 := n1_; have HO_11 := n2_; have HO_12 := n3_; have HO_13 := n4_; have HO483 := n5_; have HB := n6_; clear n0_ n1_ n2_ n3_ n4_ n5_ n6_; (try clear hb); (try clear hb2); (try clear hk); (try clear hi); (try clear ho0); obtain ⟨Ao52, co52, eo52⟩ := Kd.R_slice HO483.out; subst eo52) | ((with_reducible refine gate_callee (f := 16) rfl ?_); refine goesL_ (some 68) rfl rfl Try.func16 (by kernel_rfl) rfl #[.slice Ao28 t467.length co28, .slice Ao52 t481.length co52] rfl (by (try simp only [List.map_toArray, List.map_cons, List.map_nil]); first | done | rfl | (simp only [List.length_drop, List.length_take]; rfl)) ?_; (with_reducible refine (laws_eqBalS.calls kj16 _ _ t467 _ _ t481 true _ ?side1 ?side2 ?side3 ?side4 A39.out).mono ?_); (case side1 => repeat (first | exact (Kd.R_reads' HO_10.out).2.2 | (with_reducible refine Kd.C_alloc ?_ _) | (with_reducible refine Kd.C_drewN ?_ _) | (with_reducible refine Kd.C_drew ?_))); (case side2 => exact (Kd.R_reads' HO_10.out).2.1); (case side3 => repeat (first | exact (Kd.R_reads' HO483.out).2.2 | (with_reducible refine Kd.C_alloc ?_ _) | (with_reducible refine Kd.C_drewN ?_ _) | (with_reducible refine Kd.C_drew ?_))); (case side4 => exact (Kd.R_reads' HO483.out).2.1); rintro e w53 ⟨rfl, hb⟩; refine ⟨_, rfl, ?_⟩; have n0_ := Aside0.mk (Kd.R_below (by (with_reducible repeat (first | apply Kd.R_alloc | apply Kd.R_drewN | apply Kd.R_drew)); exact HO_8.out) hb); have n1_ := Aside0.mk (Kd.R_below (by (with_reducible repeat (first | apply Kd.R_alloc | apply Kd.R_drewN | apply Kd.R_drew)); exact HO_10.out) hb); have n2_ := Aside0.mk (Kd.R_below (by (with_reducible repeat (first | apply Kd.R_alloc | apply Kd.R_drewN | apply Kd.R_drew)); exact HO_11.out) hb); have n3_ := Aside0.mk (Kd.R_below (by (with_reducible repeat (first | apply Kd.R_alloc | apply Kd.R_drewN | apply Kd.R_drew)); exact HO_12.out) hb); have n4_ := Aside0.mk (Kd.R_below (by (with_reducible repeat (first | apply Kd.R_alloc | apply Kd.R_drewN | apply Kd.R_drew)); exact HO_13.out) hb); have n5_ := Aside0.mk (Kd.R_below (by (with_reducible repeat (first | apply Kd.R_alloc | apply Kd.R_drewN | apply Kd.R_drew)); exact HO483.out) hb); have n6_ := Aside0.mk (below_step (by repeat (first | (with_reducible first | exact HB.out | apply below_alloc | apply pw_below_drewN | apply below_drew1) | exact HB.out)) hb); clear HO_8; clear HO_10; clear HO_11; clear HO_12; clear HO_13; clear HO483; clear HB; have HO_8 := n0_; have HO_10 := n1_; have HO_11 := n2_; have HO_12 := n3_; have HO_13 := n4_; have HO483 := n5_; have HB := n6_; clear n0_ n1_ n2_ n3_ n4_ n5_ n6_; (try clear hb); (try clear hb2); (try clear hk); (try clear hi)) | ((with_reducible refine gate_callee (f := 19) rfl ?_); refine goesL_ (some 72) rfl rfl Try.func19 (by kernel_rfl) rfl #[.slice A1 l1.length c1] rfl (by (try simp only [List.map_toArray, List.map_cons, List.map_nil]); first | done | rfl | (simp only [List.length_drop, List.length_take]; rfl)) ?_; (with_reducible refine (laws_toLegS.calls kj16 _ _ l1 t485 _ ?side1 ?side2 A41.out).mono ?_); (case side1 => repeat (first | exact (Kd.C_below HR1.out HB.out) | (with_reducible refine Kd.C_alloc ?_ _) | (with_reducible refine Kd.C_drewN ?_ _) | (with_reducible refine Kd.C_drew ?_))); (case side2 => exact HC1.out); rintro e w54 ⟨v486, rfl, ho0, hb⟩; refine ⟨_, rfl, ?_⟩; have n0_ := Aside0.mk (Kd.R_below (by (with_reducible repeat (first | apply Kd.R_alloc | apply Kd.R_drewN | apply Kd.R_drew)); exact HO_8.out) hb); have n1_ := Aside0.mk (Kd.R_below (by (with_reducible repeat (first | apply Kd.R_alloc | apply Kd.R_drewN | apply Kd.R_drew)); exact HO_10.out) hb); have n2_ := Aside0.mk (Kd.R_elder' (by (with_reducible repeat (first | apply Kd.R_alloc | apply Kd.R_drewN | apply Kd.R_drew)); exact HO_11.out) (Kd.R_base ho0) hb); have n3_ := Aside0.mk (Kd.R_below (by (with_reducible repeat (first | apply Kd.R_alloc | apply Kd.R_drewN | apply Kd.R_drew)); exact HO_12.out) hb); have n4_ := Aside0.mk (Kd.R_below (by (with_reducible repeat (first | apply Kd.R_alloc | apply Kd.R_drewN | apply Kd.R_drew)); exact HO_13.out) hb); have n5_ := Aside0.mk (Kd.R_below (by (with_reducible repeat (first | apply Kd.R_alloc | apply Kd.R_drewN | apply Kd.R_drew)); exact HO483.out) hb); have n6_ := Aside0.mk (Kd.R_lower (Kd.R_new' ho0 (Kd.R_lt (by (with_reducible repeat (first | apply Kd.R_alloc | apply Kd.R_drewN | apply Kd.R_drew)); exact HO_11.out))) (below_size (by repeat (first | (with_reducible first | exact HB.out | apply below_alloc | apply pw_below_drewN | apply below_drew1) | exact HB.out)))); have n7_ := Aside0.mk (below_step (by repeat (first | (with_reducible first | exact HB.out | apply below_alloc | apply pw_below_drewN | apply below_drew1) | exact HB.out)) hb); clear HO_8; clear HO_10; clear HO_11; clear HO_12; clear HO_13; clear HO483; clear HB; have HO_8 := n0_; have HO_10 := n1_; have HO_11 := n2_; have HO_12 := n3_; have HO_13 := n4_; have HO483 := n5_; have HO487 := n6_; have HB := n7_; clear n0_ n1_ n2_ n3_ n4_ n5_ n6_ n7_; (try clear hb); (try clear hb2); (try clear hk); (try clear hi); (try clear ho0); obtain ⟨Ao55, co55, eo55⟩ := Kd.R_slice HO487.out; subst eo55) | ((with_reducible refine gate_callee (f := 21) rfl ?_); refine goesL_ (some 73) rfl rfl Try.func21 (by kernel_rfl) rfl #[.slice Ao29 t470.length co29, .slice Ao55 t485.length co55] rfl (by (try simp only [List.map_toArray, List.map_cons, List.map_nil]); first | done | rfl | (simp only [List.length_drop, List.length_take]; rfl)) ?_; (with_reducible refine (laws_eqLegS.calls kj16 _ _ t470 _ _ t485 true _ ?side1 ?side2 ?side3 ?side4 A42.out).mono ?_); (case side1 => repeat (first | exact (Kd.R_reads' HO_11.out).2.2 | (with_reducible refine Kd.C_alloc ?_ _) | (with_reducible refine Kd.C_drewN ?_ _) | (with_reducible refine Kd.C_drew ?_))); (case side2 => exact (Kd.R_reads' HO_11.out).2.1); (case side3 => repeat (first | exact (Kd.R_reads' HO487.out).2.2 | (with_reducible refine Kd.C_alloc ?_ _) | (with_reducible refine Kd.C_drewN ?_ _) | (with_reducible refine Kd.C_drew ?_))); (case side4 => exact (Kd.R_reads' HO487.out).2.1); rintro e w56 ⟨rfl, hb⟩; refine ⟨_, rfl, ?_⟩; have n0_ := Aside0.mk (Kd.R_below (by (with_reducible repeat (first | apply Kd.R_alloc | apply Kd.R_drewN | apply Kd.R_drew)); exact HO_8.out) hb); have n1_ := Aside0.mk (Kd.R_below (by (with_reducible repeat (first | apply Kd.R_alloc | apply Kd.R_drewN | apply Kd.R_drew)); exact HO_10.out) hb); have n2_ := Aside0.mk (Kd.R_below (by (with_reducible repeat (first | apply Kd.R_alloc | apply Kd.R_drewN | apply Kd.R_drew)); exact HO_11.out) hb); have n3_ := Aside0.mk (Kd.R_below (by (with_reducible repeat (first | apply Kd.R_alloc | apply Kd.R_drewN | apply Kd.R_drew)); exact HO_12.out) hb); have n4_ := Aside0.mk (Kd.R_below (by (with_reducible repeat (first | apply Kd.R_alloc | apply Kd.R_drewN | apply Kd.R_drew)); exact HO_13.out) hb); have n5_ := Aside0.mk (Kd.R_below (by (with_reducible repeat (first | apply Kd.R_alloc | apply Kd.R_drewN | apply Kd.R_drew)); exact HO483.out) hb); have n6_ := Aside0.mk (Kd.R_below (by (with_reducible repeat (first | apply Kd.R_alloc | apply Kd.R_drewN | apply Kd.R_drew)); exact HO487.out) hb); have n7_ := Aside0.mk (below_step (by repeat (first | (with_reducible first | exact HB.out | apply below_alloc | apply pw_below_drewN | apply below_drew1) | exact HB.out)) hb); clear HO_8; clear HO_10; clear HO_11; clear HO_12; clear HO_13; clear HO483; clear HO487; clear HB; have HO_8 := n0_; have HO_10 := n1_; have HO_11 := n2_; have HO_12 := n3_; have HO_13 := n4_; have HO483 := n5_; have HO487 := n6_; have HB := n7_; clear n0_ n1_ n2_ n3_ n4_ n5_ n6_ n7_; (try clear hb); (try clear hb2); (try clear hk); (try clear hi)) | ((with_reducible refine gate_callee (f := 31) rfl ?_); refine goesL_ (some 77) rfl rfl Try.func31 (by kernel_rfl) rfl #[.slice A2 l2.length c2] rfl (by (try simp only [List.map_toArray, List.map_cons, List.map_nil]); first | done | rfl | (simp only [List.length_drop, List.length_take]; rfl)) ?_; (with_reducible refine (laws_toIntS.calls kj16 _ _ l2 t489 _ ?side1 ?side2 A44.out).mono ?_); (case side1 => repeat (first | exact (Kd.C_below HR2.out HB.out) | (with_reducible refine Kd.C_alloc ?_ _) | (with_reducible refine Kd.C_drewN ?_ _) | (with_reducible refine Kd.C_drew ?_))); (case side2 => exact HC2.out); rintro e w57 ⟨v490, rfl, ho0, hb⟩; refine ⟨_, rfl, ?_⟩; have n0_ := Aside0.mk (Kd.R_below (by (with_reducible repeat (first | apply Kd.R_alloc | apply Kd.R_drewN | apply Kd.R_drew)); exact HO_8.out) hb); have n1_ := Aside0.mk (Kd.R_below (by (with_reducible repeat (first | apply Kd.R_alloc | apply Kd.R_drewN | apply Kd.R_drew)); exact HO_10.out) hb); have n2_ := Aside0.mk (Kd.R_below (by (with_reducible repeat (first | apply Kd.R_alloc | apply Kd.R_drewN | apply Kd.R_drew)); exact HO_11.out) hb); have n3_ := Aside0.mk (Kd.R_elder' (by (with_reducible repeat (first | apply Kd.R_alloc | apply Kd.R_drewN | apply Kd.R_drew)); exact HO_12.out) (Kd.R_base ho0) hb); have n4_ := Aside0.mk (Kd.R_below (by (with_reducible repeat (first | apply Kd.R_alloc | apply Kd.R_drewN | apply Kd.R_drew)); exact HO_13.out) hb); have n5_ := Aside0.mk (Kd.R_below (by (with_reducible repeat (first | apply Kd.R_alloc | apply Kd.R_drewN | apply Kd.R_drew)); exact HO483.out) hb); have n6_ := Aside0.mk (Kd.R_below (by (with_reducible repeat (first | apply Kd.R_alloc | apply Kd.R_drewN | apply Kd.R_drew)); exact HO487.out) hb); have n7_ := Aside0.mk (Kd.R_lower (Kd.R_new' ho0 (Kd.R_lt (by (with_reducible repeat (first | apply Kd.R_alloc | apply Kd.R_drewN | apply Kd.R_drew)); exact HO_12.out))) (below_size (by repeat (first | (with_reducible first | exact HB.out | apply below_alloc | apply pw_below_drewN | apply below_drew1) | exact HB.out)))); have n8_ := Aside0.mk (below_step (by repeat (first | (with_reducible first | exact HB.out | apply below_alloc | apply pw_below_drewN | apply below_drew1) | exact HB.out)) hb); clear HO_8; clear HO_10; clear HO_11; clear HO_12; clear HO_13; clear HO483; clear HO487; clear HB; have HO_8 := n0_; have HO_10 := n1_; have HO_11 := n2_; have HO_12 := n3_; have HO_13 := n4_; have HO483 := n5_; have HO487 := n6_; have HO491 := n7_; have HB := n8_; clear n0_ n1_ n2_ n3_ n4_ n5_ n6_ n7_ n8_; (try clear hb); (try clear hb2); (try clear hk); (try clear hi); (try clear ho0); obtain ⟨Ao58, co58, eo58⟩ := Kd.R_slice HO491.out; subst eo58) | ((with_reducible refine gate_callee (f := 33) rfl ?_); refine goesL_ (some 78) rfl rfl Try.func33 (by kernel_rfl) rfl #[.slice Ao30 t473.length co30, .slice Ao58 t489.length co58] rfl (by (try simp only [List.map_toArray, List.map_cons, List.map_nil]); first | done | rfl | (simp only [List.length_drop, List.length_take]; rfl)) ?_; (with_reducible refine (laws_eqIntS.calls kj16 _ _ t473 _ _ t489 true _ ?side1 ?side2 ?side3 ?side4 A45.out).mono ?_); (case side1 => repeat (first | exact (Kd.R_reads' HO_12.out).2.2 | (with_reducible refine Kd.C_alloc ?_ _) | (with_reducible refine Kd.C_drewN ?_ _) | (with_reducible refine Kd.C_drew ?_))); (case side2 => exact (Kd.R_reads' HO_12.out).2.1); (case side3 => repeat (first | exact (Kd.R_reads' HO491.out).2.2 | (with_reducible refine Kd.C_alloc ?_ _) | (with_reducible refine Kd.C_drewN ?_ _) | (with_reducible refine Kd.C_drew ?_))); (case side4 => exact (Kd.R_reads' HO491.out).2.1); rintro e w' ⟨rfl, ⟨nd, rfl⟩⟩; refine ⟨_, rfl, ?_⟩) | ((with_reducible refine gate_callee (f := 28) rfl ?_); refine goesL_ (some 82) rfl rfl Try.func28 (by kernel_rfl) rfl #[.slice Ao28 t467.length co28, .int .i64 1] rfl (by (try simp only [List.map_toArray, List.map_cons, List.map_nil]); first | done | rfl | (simp only [List.length_drop, List.length_take]; rfl)) ?_; (with_reducible refine (laws_markBalS.calls kj16 (fun k_ => some k_ = (.slice Ao28 t467.length co28 : Value).ownBlock) (.slice Ao28 t467.length co28) t467 1 t493 t494 w _ ?side1 ?side2 A47.out).mono ?_); (case side1 => repeat (first | (with_reducible first | exact HB.out | apply below_alloc | apply pw_below_drewN | apply below_drew1) | exact HB.out)); (case side2 => exact Kd.R_tight rfl HO_10.out); rintro e w59 ⟨rfl, hy0, hb, hkp⟩; refine ⟨_, rfl, ?_⟩; have n0_ := Aside0.mk (Kd.R_mono (ok' := fun k_ => some k_ ≠ (.slice Ao28 t467.length co28 : Value).ownBlock ∧ some k_ ≠ (v478 : Value).ownBlock ∧ some k_ ≠ (.slice Ao52 t481.length co52 : Value).ownBlock) (Kd.R_keptB (HO_8.out) hkp (fun k_ hk_ hs_ => (hk_.1.1) hs_)) (fun k_ hk_ => ⟨hk_.1.1.1, hk_.1.1.2, hk_.1.2⟩)); have n1_ := Aside0.mk (Kd.R_reok rfl hy0 (fun k_ e_ => HO_10.out.1 k_ e_)); have n2_ := Aside0.mk (Kd.R_mono (ok' := fun k_ => some k_ ≠ (.slice Ao55 t485.length co55 : Value).ownBlock) (Kd.R_keptB ((Kd.R_apart' HO_11.out (Kd.R_typed HO_10.out) (by decide))) hkp (fun k_ hk_ hs_ => (hk_.2) hs_)) (fun k_ hk_ => hk_.1.1.2)); have n3_ := Aside0.mk (Kd.R_mono (ok' := fun k_ => some k_ ≠ (.slice Ao58 t489.length co58 : Value).ownBlock) (Kd.R_keptB ((Kd.R_apart' HO_12.out (Kd.R_typed HO_10.out) (by decide))) hkp (fun k_ hk_ hs_ => (hk_.2) hs_)) (fun k_ hk_ => hk_.1.1.2)); have n4_ := Aside0.mk (Kd.R_mono (ok' := fun k_ => some k_ ≠ (v465 : Value).ownBlock ∧ some k_ ≠ (.slice Ao28 t467.length co28 : Value).ownBlock ∧ some k_ ≠ (.slice Ao52 t481.length co52 : Value).ownBlock) (Kd.R_keptB (HO_13.out) hkp (fun k_ hk_ hs_ => (hk_.1.2) hs_)) (fun k_ hk_ => ⟨hk_.1.1.1, hk_.1.1.2, hk_.1.2⟩)); have n5_ := Aside0.mk (Kd.R_mono (ok' := fun k_ => some k_ ≠ (v465 : Value).ownBlock ∧ some k_ ≠ (.slice Ao28 t467.length co28 : Value).ownBlock ∧ some k_ ≠ (v478 : Value).ownBlock) (Kd.R_keptB (HO483.out) hkp (fun k_ hk_ hs_ => (hk_.1.2) hs_)) (fun k_ hk_ => ⟨hk_.1.1.1.2, hk_.1.1.2, hk_.1.2⟩)); have n6_ := Aside0.mk (Kd.R_mono (ok' := fun k_ => some k_ ≠ (.slice Ao29 t470.length co29 : Value).ownBlock) (Kd.R_keptB ((Kd.R_apart' HO487.out (Kd.R_typed HO_10.out) (by decide))) hkp (fun k_ hk_ hs_ => (hk_.2) hs_)) (fun k_ hk_ => hk_.1.1.2)); have n7_ := Aside0.mk (Kd.R_mono (ok' := fun k_ => some k_ ≠ (.slice Ao30 t473.length co30 : Value).ownBlock) (Kd.R_keptB ((Kd.R_apart' HO491.out (Kd.R_typed HO_10.out) (by decide))) hkp (fun k_ hk_ hs_ => (hk_.2) hs_)) (fun k_ hk_ => hk_.1.1.2)); have n8_ := Aside0.mk (hb); clear HO_8; clear HO_10; clear HO_11; clear HO_12; clear HO_13; clear HO483; clear HO487; clear HO491; clear HB; have HO_8 := n0_; have HO_10 := n1_; have HO_11 := n2_; have HO_12 := n3_; have HO_13 := n4_; have HO483 := n5_; have HO487 := n6_; have HO491 := n7_; have HB := n8_; clear n0_ n1_ n2_ n3_ n4_ n5_ n6_ n7_ n8_; (try clear hb); (try clear hkp); (try clear hy0)) | ((with_reducible refine gate_callee (f := 34) rfl ?_); refine goesL_ (some 85) rfl rfl Try.func34 (by kernel_rfl) rfl #[.slice Ao29 t470.length co29, .int .i64 t493] rfl (by (try simp only [List.map_toArray, List.map_cons, List.map_nil]); first | done | rfl | (simp only [List.length_drop, List.length_take]; rfl)) ?_; (with_reducible refine (laws_markLegS.calls kj16 (fun k_ => some k_ = (.slice Ao29 t470.length co29 : Value).ownBlock) (.slice Ao29 t470.length co29) t470 t493 t495 t496 w _ ?side1 ?side2 A48.out).mono ?_); (case side1 => repeat (first | (with_reducible first | exact HB.out | apply below_alloc | apply pw_below_drewN | apply below_drew1) | exact HB.out)); (case side2 => exact Kd.R_tight rfl HO_11.out); rintro e w60 ⟨rfl, hy0, hb, hkp⟩; refine ⟨_, rfl, ?_⟩; have n0_ := Aside0.mk (Kd.R_mono (ok' := fun k_ => some k_ ≠ (.slice Ao28 t467.length co28 : Value).ownBlock ∧ some k_ ≠ (v478 : Value).ownBlock ∧ some k_ ≠ (.slice Ao52 t481.length co52 : Value).ownBlock) (Kd.R_keptB ((Kd.R_apart' HO_8.out (Kd.R_typed HO_11.out) (by decide))) hkp (fun k_ hk_ hs_ => (hk_.2) hs_)) (fun k_ hk_ => ⟨hk_.1.1.1, hk_.1.1.2.1, hk_.1.1.2.2⟩)); have n1_ := Aside0.mk (Kd.R_mono (ok' := fun k_ => some k_ ≠ (v465 : Value).ownBlock ∧ some k_ ≠ (v478 : Value).ownBlock ∧ some k_ ≠ (.slice Ao52 t481.length co52 : Value).ownBlock) (Kd.R_keptB ((Kd.R_apart' HO_10.out (Kd.R_typed HO_11.out) (by decide))) hkp (fun k_ hk_ hs_ => (hk_.2) hs_)) (fun k_ hk_ => ⟨hk_.1.1.1.1, hk_.1.1.1.2, hk_.1.1.2⟩)); have n2_ := Aside0.mk (Kd.R_reok rfl hy0 (fun k_ e_ => HO_11.out.1 k_ e_)); have n3_ := Aside0.mk (Kd.R_mono (ok' := fun k_ => some k_ ≠ (.slice Ao58 t489.length co58 : Value).ownBlock) (Kd.R_keptB ((Kd.R_apart' HO_12.out (Kd.R_typed HO_11.out) (by decide))) hkp (fun k_ hk_ hs_ => (hk_.2) hs_)) (fun k_ hk_ => hk_.1.1)); have n4_ := Aside0.mk (Kd.R_mono (ok' := fun k_ => some k_ ≠ (v465 : Value).ownBlock ∧ some k_ ≠ (.slice Ao28 t467.length co28 : Value).ownBlock ∧ some k_ ≠ (.slice Ao52 t481.length co52 : Value).ownBlock) (Kd.R_keptB ((Kd.R_apart' HO_13.out (Kd.R_typed HO_11.out) (by decide))) hkp (fun k_ hk_ hs_ => (hk_.2) hs_)) (fun k_ hk_ => ⟨hk_.1.1.1, hk_.1.1.2.1, hk_.1.1.2.2⟩)); have n5_ := Aside0.mk (Kd.R_mono (ok' := fun k_ => some k_ ≠ (v465 : Value).ownBlock ∧ some k_ ≠ (.slice Ao28 t467.length co28 : Value).ownBlock ∧ some k_ ≠ (v478 : Value).ownBlock) (Kd.R_keptB ((Kd.R_apart' HO483.out (Kd.R_typed HO_11.out) (by decide))) hkp (fun k_ hk_ hs_ => (hk_.2) hs_)) (fun k_ hk_ => ⟨hk_.1.1.1, hk_.1.1.2.1, hk_.1.1.2.2⟩)); have n6_ := Aside0.mk (Kd.R_mono (ok' := fun k_ => some k_ ≠ (.slice Ao29 t470.length co29 : Value).ownBlock) (Kd.R_keptB (HO487.out) hkp (fun k_ hk_ hs_ => (hk_) hs_)) (fun k_ hk_ => hk_.1)); have n7_ := Aside0.mk (Kd.R_mono (ok' := fun k_ => some k_ ≠ (.slice Ao30 t473.length co30 : Value).ownBlock) (Kd.R_keptB ((Kd.R_apart' HO491.out (Kd.R_typed HO_11.out) (by decide))) hkp (fun k_ hk_ hs_ => (hk_.2) hs_)) (fun k_ hk_ => hk_.1.1)); have n8_ := Aside0.mk (hb); clear HO_8; clear HO_10; clear HO_11; clear HO_12; clear HO_13; clear HO483; clear HO487; clear HO491; clear HB; have HO_8 := n0_; have HO_10 := n1_; have HO_11 := n2_; have HO_12 := n3_; have HO_13 := n4_; have HO483 := n5_; have HO487 := n6_; have HO491 := n7_; have HB := n8_; clear n0_ n1_ n2_ n3_ n4_ n5_ n6_ n7_ n8_; (try clear hb); (try clear hkp); (try clear hy0)) | ((with_reducible refine gate_callee (f := 35) rfl ?_); refine goesL_ (some 88) rfl rfl Try.func35 (by kernel_rfl) rfl #[.slice Ao30 t473.length co30, .int .i64 t495] rfl (by (try simp only [List.map_toArray, List.map_cons, List.map_nil]); first | done | rfl | (simp only [List.length_drop, List.length_take]; rfl)) ?_; (with_reducible refine (laws_markIntS.calls kj16 (fun k_ => some k_ = (.slice Ao30 t473.length co30 : Value).ownBlock) (.slice Ao30 t473.length co30) t473 t495 t497 t498 w _ ?side1 ?side2 A49.out).mono ?_); (case side1 => repeat (first | (with_reducible first | exact HB.out | apply below_alloc | apply pw_below_drewN | apply below_drew1) | exact HB.out)); (case side2 => exact Kd.R_tight rfl HO_12.out); rintro e w61 ⟨rfl, hy0, hb, hkp⟩; refine ⟨_, rfl, ?_⟩; have n0_ := Aside0.mk (Kd.R_mono (ok' := fun k_ => some k_ ≠ (.slice Ao28 t467.length co28 : Value).ownBlock ∧ some k_ ≠ (v478 : Value).ownBlock ∧ some k_ ≠ (.slice Ao52 t481.length co52 : Value).ownBlock) (Kd.R_keptB ((Kd.R_apart' HO_8.out (Kd.R_typed HO_12.out) (by decide))) hkp (fun k_ hk_ hs_ => (hk_.2) hs_)) (fun k_ hk_ => ⟨hk_.1.1.1, hk_.1.1.2.1, hk_.1.1.2.2⟩)); have n1_ := Aside0.mk (Kd.R_mono (ok' := fun k_ => some k_ ≠ (v465 : Value).ownBlock ∧ some k_ ≠ (v478 : Value).ownBlock ∧ some k_ ≠ (.slice Ao52 t481.length co52 : Value).ownBlock) (Kd.R_keptB ((Kd.R_apart' HO_10.out (Kd.R_typed HO_12.out) (by decide))) hkp (fun k_ hk_ hs_ => (hk_.2) hs_)) (fun k_ hk_ => ⟨hk_.1.1.1, hk_.1.1.2.1, hk_.1.1.2.2⟩)); have n2_ := Aside0.mk (Kd.R_mono (ok' := fun k_ => some k_ ≠ (.slice Ao55 t485.length co55 : Value).ownBlock) (Kd.R_keptB ((Kd.R_apart' HO_11.out (Kd.R_typed HO_12.out) (by decide))) hkp (fun k_ hk_ hs_ => (hk_.2) hs_)) (fun k_ hk_ => hk_.1.1)); have n3_ := Aside0.mk (Kd.R_reok rfl hy0 (fun k_ e_ => HO_12.out.1 k_ e_)); have n4_ := Aside0.mk (Kd.R_mono (ok' := fun k_ => some k_ ≠ (v465 : Value).ownBlock ∧ some k_ ≠ (.slice Ao28 t467.length co28 : Value).ownBlock ∧ some k_ ≠ (.slice Ao52 t481.length co52 : Value).ownBlock) (Kd.R_keptB ((Kd.R_apart' HO_13.out (Kd.R_typed HO_12.out) (by decide))) hkp (fun k_ hk_ hs_ => (hk_.2) hs_)) (fun k_ hk_ => ⟨hk_.1.1.1, hk_.1.1.2.1, hk_.1.1.2.2⟩)); have n5_ := Aside0.mk (Kd.R_mono (ok' := fun k_ => some k_ ≠ (v465 : Value).ownBlock ∧ some k_ ≠ (.slice Ao28 t467.length co28 : Value).ownBlock ∧ some k_ ≠ (v478 : Value).ownBlock) (Kd.R_keptB ((Kd.R_apart' HO483.out (Kd.R_typed HO_12.out) (by decide))) hkp (fun k_ hk_ hs_ => (hk_.2) hs_)) (fun k_ hk_ => ⟨hk_.1.1.1, hk_.1.1.2.1, hk_.1.1.2.2⟩)); have n6_ := Aside0.mk (Kd.R_mono (ok' := fun k_ => some k_ ≠ (.slice Ao29 t470.length co29 : Value).ownBlock) (Kd.R_keptB ((Kd.R_apart' HO487.out (Kd.R_typed HO_12.out) (by decide))) hkp (fun k_ hk_ hs_ => (hk_.2) hs_)) (fun k_ hk_ => hk_.1.1)); have n7_ := Aside0.mk (Kd.R_mono (ok' := fun k_ => some k_ ≠ (.slice Ao30 t473.length co30 : Value).ownBlock) (Kd.R_keptB (HO491.out) hkp (fun k_ hk_ hs_ => (hk_) hs_)) (fun k_ hk_ => hk_.1)); have n8_ := Aside0.mk (hb); clear HO_8; clear HO_10; clear HO_11; clear HO_12; clear HO_13; clear HO483; clear HO487; clear HO491; clear HB; have HO_8 := n0_; have HO_10 := n1_; have HO_11 := n2_; have HO_12 := n3_; have HO_13 := n4_; have HO483 := n5_; have HO487 := n6_; have HO491 := n7_; have HB := n8_; clear n0_ n1_ n2_ n3_ n4_ n5_ n6_ n7_ n8_; (try clear hb); (try clear hkp); (try clear hy0)))
          (try simp only [Act.put, List.setIfInBounds_toArray, List.set_cons_zero, List.set_cons_succ])
          go_cut [101] (fun v101 wc => ∃ (kq : Nat) (x101_49 : Bool), v101 = .bool x101_49 ∧ Aside0 (laws_FnExactBalsPost.j1 kq l0 l1 l2 t463 t464 t476 x101_49 = some r) ∧ Aside0 (kq ≤ kj16) ∧ Aside0 (Kd.R k58 58 wc w.heap.size (fun k_ => some k_ ≠ (v478 : Value).ownBlock) v465 t463) ∧ Aside0 (Kd.R k58 58 wc w.heap.size (fun k_ => some k_ ≠ (v465 : Value).ownBlock) v478 t476) ∧ Aside0 (Below w.heap.size w wc))
          case first =>
           have H := HC50.out
           clear HC50
           by_cases c62 : t497 < 0
           ·
            rw [if_pos c62] at H
            exact absurd H (by simp)
           ·
            rw [if_neg c62] at H
            have c62b0 : decide (t497 < 0) = false := decide_eq_false c62
            clear c62
            (first | rw [c62b0] | (simp only [i64_w, i32_w]; rw [c62b0]) | skip)
            replace H := Option.bind_eq_some_iff.mp H
            obtain ⟨t499, A630, H⟩ := H
            replace H : (if t499 = true then (laws_FnExactBalsPost.j1 kj16 l0 l1 l2 t463 t464 t476 (t477 != t464)) else (none)) = some r := H
            have A63 := Aside0.mk A630
            clear A630
            by_cases c64 : t499 = true
            ·
             subst c64
             have H1 : (laws_FnExactBalsPost.j1 kj16 l0 l1 l2 t463 t464 t476 (t477 != t464)) = some r := by rw [if_pos rfl] at H; exact H
             clear H
             have H := H1
             clear H1
             have H' := Aside0.mk H
             clear H
             obtain ⟨Ao65, co65, eo65⟩ := Kd.R_slice HO_13.out
             subst eo65
             obtain ⟨Ao66, co66, eo66⟩ := Kd.R_slice HO_8.out
             subst eo66
             go_wp2_with (first | (go_at_call 16; (with_reducible refine (laws_eqBalS.calls kj16 _ _ t476 _ _ t463 true _ ?side1 ?side2 ?side3 ?side4 A63.out).mono ?_); (case side1 => repeat (first | exact (Kd.R_reads' HO_13.out).2.2 | (with_reducible refine Kd.C_alloc ?_ _) | (with_reducible refine Kd.C_drewN ?_ _) | (with_reducible refine Kd.C_drew ?_))); (case side2 => exact (Kd.R_reads' HO_13.out).2.1); (case side3 => repeat (first | exact (Kd.R_reads' HO_8.out).2.2 | (with_reducible refine Kd.C_alloc ?_ _) | (with_reducible refine Kd.C_drewN ?_ _) | (with_reducible refine Kd.C_drew ?_))); (case side4 => exact (Kd.R_reads' HO_8.out).2.1); rintro e w67 ⟨rfl, hb⟩; have n0_ := Aside0.mk (Kd.R_below (by (with_reducible repeat (first | apply Kd.R_alloc | apply Kd.R_drewN | apply Kd.R_drew)); exact HO_8.out) hb); have n1_ := Aside0.mk (Kd.R_below (by (with_reducible repeat (first | apply Kd.R_alloc | apply Kd.R_drewN | apply Kd.R_drew)); exact HO_10.out) hb); have n2_ := Aside0.mk (Kd.R_below (by (with_reducible repeat (first | apply Kd.R_alloc | apply Kd.R_drewN | apply Kd.R_drew)); exact HO_11.out) hb); have n3_ := Aside0.mk (Kd.R_below (by (with_reducible repeat (first | apply Kd.R_alloc | apply Kd.R_drewN | apply Kd.R_drew)); exact HO_12.out) hb); have n4_ := Aside0.mk (Kd.R_below (by (with_reducible repeat (first | apply Kd.R_alloc | apply Kd.R_drewN | apply Kd.R_drew)); exact HO_13.out) hb); have n5_ := Aside0.mk (Kd.R_below (by (with_reducible repeat (first | apply Kd.R_alloc | apply Kd.R_drewN | apply Kd.R_drew)); exact HO483.out) hb); have n6_ := Aside0.mk (Kd.R_below (by (with_reducible repeat (first | apply Kd.R_alloc | apply Kd.R_drewN | apply Kd.R_drew)); exact HO487.out) hb); have n7_ := Aside0.mk (Kd.R_below (by (with_reducible repeat (first | apply Kd.R_alloc | apply Kd.R_drewN | apply Kd.R_drew)); exact HO491.out) hb); have n8_ := Aside0.mk (below_step (by repeat (first | (with_reducible first | exact HB.out | apply below_alloc | apply pw_below_drewN | apply below_drew1) | exact HB.out)) hb); clear HO_8; clear HO_10; clear HO_11; clear HO_12; clear HO_13; clear HO483; clear HO487; clear HO491; clear HB; have HO_8 := n0_; have HO_10 := n1_; have HO_11 := n2_; have HO_12 := n3_; have HO_13 := n4_; have HO483 := n5_; have HO487 := n6_; have HO491 := n7_; have HB := n8_; clear n0_ n1_ n2_ n3_ n4_ n5_ n6_ n7_ n8_; (try clear hb); (try clear hb2); (try clear hk); (try clear hi)))
             go_meet
             case rel => exact ⟨_, ((t477 != t464)), (by first | rfl | (simp; done) | (simp [*]; done)), H', ⟨by have := HJ16.out; first | omega | exact Nat.le_refl _⟩, ⟨by (with_reducible repeat (first | apply Kd.R_alloc | apply Kd.R_drewN | apply Kd.R_drew)); exact Kd.R_mono HO_8.out (fun _ hk => hk.2.1)⟩, ⟨by (with_reducible repeat (first | apply Kd.R_alloc | apply Kd.R_drewN | apply Kd.R_drew)); exact Kd.R_mono HO_13.out (fun _ hk => hk.1)⟩, ⟨by repeat (first | (with_reducible first | exact HB.out | apply below_alloc | apply pw_below_drewN | apply below_drew1) | exact HB.out)⟩⟩
            ·
             replace c64 := Bool.eq_false_iff.mpr c64
             subst c64
             have H1 : (none) = some r := by rw [if_neg (show ¬ (false = true) by decide)] at H; exact H
             clear H
             have H := H1
             clear H1
             exact absurd H (by simp)
          case rest =>
           clear HC50
           try clear c1
           try clear c2
           try clear p2
           try clear c3
           try clear c4
           try clear c4b0
           try clear c4b1
           try clear c6
           try clear c6b0
           try clear c8
           try clear c8b0
           try clear c12
           try clear c14
           try clear c16
           try clear c17
           try clear c19
           try clear c21
           try clear c28
           try clear c30
           try clear c31
           try clear c32
           try clear c33
           try clear c34
           try clear c35
           try clear c37
           try clear c40
           try clear c43
           try clear c46
           try clear c62
           try clear c62b0
           try clear c64
           try clear p2
           obtain ⟨kq, x101_49, rfl, HA, HJ49, HO_8, HO_13, HB⟩ := hcut
           cases kq with
           | zero => exact absurd HA.out (by simp [laws_FnExactBalsPost.j1])
           | succ kj49 =>
            have H := HA.out
            clear HA
            simp only [laws_FnExactBalsPost.j1] at H
            by_cases c68 : x101_49 = true
            ·
             subst c68
             have H1 : (none) = some r := by rw [if_pos rfl] at H; exact H
             clear H
             have H := H1
             clear H1
             exact absurd H (by simp)
            ·
             replace c68 := Bool.eq_false_iff.mpr c68
             subst c68
             have H1 : ((laws_markBalS.f kj49 t476 1).bind fun bt500 => ((laws_heldBalS.f kj49 bt500.2 1).bind fun t502 => (if t502 < 0 then (none) else (if t502 = bt500.1 then ((laws_toBalS.f kj49 l0).bind fun t503 => ((laws_toLegS.f kj49 l1).bind fun t506 => ((laws_toIntS.f kj49 l2).bind fun t509 => ((impl_BalsPost.f kj49 t503 t506 t509).bind fun bt512 => ((laws_eqBalS.f kj49 bt512.1 t463).bind fun t516 => (if t516 = true then (laws_FnExactBalsPost.j2 kj49 bt500.2 bt500.1 (bt512.2 != t464)) else (none))))))) else (none))))) = some r := by rw [if_neg (show ¬ (false = true) by decide)] at H; exact H
             clear H
             have H := H1
             clear H1
             replace H := Option.bind_eq_some_iff.mp H
             obtain ⟨⟨t500, t501⟩, A690, H⟩ := H
             replace H : ((laws_heldBalS.f kj49 t501 1).bind fun t502 => (if t502 < 0 then (none) else (if t502 = t500 then ((laws_toBalS.f kj49 l0).bind fun t503 => ((laws_toLegS.f kj49 l1).bind fun t506 => ((laws_toIntS.f kj49 l2).bind fun t509 => ((impl_BalsPost.f kj49 t503 t506 t509).bind fun bt512 => ((laws_eqBalS.f kj49 bt512.1 t463).bind fun t516 => (if t516 = true then (laws_FnExactBalsPost.j2 kj49 t501 t500 (bt512.2 != t464)) else (none))))))) else (none)))) = some r := H
             have A69 := Aside0.mk A690
             clear A690
             replace H := Option.bind_eq_some_iff.mp H
             obtain ⟨t502, A700, H⟩ := H
             replace H : (if t502 < 0 then (none) else (if t502 = t500 then ((laws_toBalS.f kj49 l0).bind fun t503 => ((laws_toLegS.f kj49 l1).bind fun t506 => ((laws_toIntS.f kj49 l2).bind fun t509 => ((impl_BalsPost.f kj49 t503 t506 t509).bind fun bt512 => ((laws_eqBalS.f kj49 bt512.1 t463).bind fun t516 => (if t516 = true then (laws_FnExactBalsPost.j2 kj49 t501 t500 (bt512.2 != t464)) else (none))))))) else (none))) = some r := H
             have A70 := Aside0.mk A700
             clear A700
             by_cases c71 : t502 < 0
             ·
              rw [if_pos c71] at H
              exact absurd H (by simp)
             ·
              rw [if_neg c71] at H
              have c71b0 : decide (t502 < 0) = false := decide_eq_false c71
              clear c71
              by_cases c72 : t502 = t500
              ·
               rw [if_pos c72] at H
               have c72b0 : (t502 == t500) = true := beq_iff_eq.mpr c72
               have c72b1 : (t502 != t500) = false := bne_eq_false_iff_eq.mpr c72
               clear c72
               replace H := Option.bind_eq_some_iff.mp H
               obtain ⟨t503, A730, H⟩ := H
               replace H : ((laws_toLegS.f kj49 l1).bind fun t506 => ((laws_toIntS.f kj49 l2).bind fun t509 => ((impl_BalsPost.f kj49 t503 t506 t509).bind fun bt512 => ((laws_eqBalS.f kj49 bt512.1 t463).bind fun t516 => (if t516 = true then (laws_FnExactBalsPost.j2 kj49 t501 t500 (bt512.2 != t464)) else (none)))))) = some r := H
               have A73 := Aside0.mk A730
               clear A730
               replace H := Option.bind_eq_some_iff.mp H
               obtain ⟨t506, A740, H⟩ := H
               replace H : ((laws_toIntS.f kj49 l2).bind fun t509 => ((impl_BalsPost.f kj49 t503 t506 t509).bind fun bt512 => ((laws_eqBalS.f kj49 bt512.1 t463).bind fun t516 => (if t516 = true then (laws_FnExactBalsPost.j2 kj49 t501 t500 (bt512.2 != t464)) else (none))))) = some r := H
               have A74 := Aside0.mk A740
               clear A740
               replace H := Option.bind_eq_some_iff.mp H
               obtain ⟨t509, A750, H⟩ := H
               replace H : ((impl_BalsPost.f kj49 t503 t506 t509).bind fun bt512 => ((laws_eqBalS.f kj49 bt512.1 t463).bind fun t516 => (if t516 = true then (laws_FnExactBalsPost.j2 kj49 t501 t500 (bt512.2 != t464)) else (none)))) = some r := H
               have A75 := Aside0.mk A750
               clear A750
               replace H := Option.bind_eq_some_iff.mp H
               obtain ⟨⟨t512, t513⟩, A760, H⟩ := H
               replace H : ((laws_eqBalS.f kj49 t512 t463).bind fun t516 => (if t516 = true then (laws_FnExactBalsPost.j2 kj49 t501 t500 (t513 != t464)) else (none))) = some r := H
               have A76 := Aside0.mk A760
               clear A760
               have HC77 := Aside0.mk H
               clear H
               obtain ⟨Ao78, co78, eo78⟩ := Kd.R_slice HO_13.out
               subst eo78
               go_upto_region 38 with (first | ((with_reducible refine gate_callee (f := 28) rfl ?_); refine goesL_ (some 104) rfl rfl Try.func28 (by kernel_rfl) rfl #[.slice Ao78 t476.length co78, .int .i64 1] rfl (by (try simp only [List.map_toArray, List.map_cons, List.map_nil]); first | done | rfl | (simp only [List.length_drop, List.length_take]; rfl)) ?_; (with_reducible refine (laws_markBalS.calls kj49 (fun k_ => some k_ = (.slice Ao78 t476.length co78 : Value).ownBlock) (.slice Ao78 t476.length co78) t476 1 t500 t501 w _ ?side1 ?side2 A69.out).mono ?_); (case side1 => repeat (first | (with_reducible first | exact HB.out | apply below_alloc | apply pw_below_drewN | apply below_drew1) | exact HB.out)); (case side2 => exact Kd.R_tight rfl HO_13.out); rintro e w79 ⟨rfl, hy0, hb, hkp⟩; refine ⟨_, rfl, ?_⟩; have n0_ := Aside0.mk (Kd.R_mono (ok' := fun k_ => some k_ ≠ (.slice Ao78 t476.length co78 : Value).ownBlock) (Kd.R_keptB (HO_8.out) hkp (fun k_ hk_ hs_ => (hk_) hs_)) (fun k_ hk_ => hk_.1)); have n1_ := Aside0.mk (Kd.R_reok rfl hy0 (fun k_ e_ => HO_13.out.1 k_ e_)); have n2_ := Aside0.mk (hb); clear HO_8; clear HO_13; clear HB; have HO_8 := n0_; have HO_13 := n1_; have HB := n2_; clear n0_ n1_ n2_; (try clear hb); (try clear hkp); (try clear hy0)) | ((with_reducible refine gate_callee (f := 29) rfl ?_); refine goesL_ (some 107) rfl rfl Try.func29 (by kernel_rfl) rfl #[.slice Ao78 t501.length co78, .int .i64 1] rfl (by (try simp only [List.map_toArray, List.map_cons, List.map_nil]); first | done | (rw [show t501.length = t476.length from (Kd.R_reads' HO_13.out).1.symm] <;> rfl) | rfl | (simp only [List.length_drop, List.length_take]; rfl)) ?_; (with_reducible refine (laws_heldBalS.calls kj49 _ _ t501 1 t502 _ ?side1 ?side2 A70.out).mono ?_); (case side1 => repeat (first | exact (Kd.R_reads' HO_13.out).2.2 | (with_reducible refine Kd.C_alloc ?_ _) | (with_reducible refine Kd.C_drewN ?_ _) | (with_reducible refine Kd.C_drew ?_))); (case side2 => rw [show t501.length = t476.length from (Kd.R_reads' HO_13.out).1.symm]; exact (Kd.R_reads' HO_13.out).2.1); rintro e w' ⟨rfl, ⟨nd, rfl⟩⟩; refine ⟨_, rfl, ?_⟩) | ((with_reducible refine gate_callee (f := 14) rfl ?_); refine goesL_ (some 115) rfl rfl Try.func14 (by kernel_rfl) rfl #[.slice A0 l0.length c0] rfl (by (try simp only [List.map_toArray, List.map_cons, List.map_nil]); first | done | rfl | (simp only [List.length_drop, List.length_take]; rfl)) ?_; (with_reducible refine (laws_toBalS.calls kj49 _ _ l0 t503 _ ?side1 ?side2 A73.out).mono ?_); (case side1 => repeat (first | exact (Kd.C_below HR0.out (by repeat (first | (with_reducible first | exact HB.out | apply below_alloc | apply pw_below_drewN | apply below_drew1) | exact HB.out))) | (with_reducible refine Kd.C_alloc ?_ _) | (with_reducible refine Kd.C_drewN ?_ _) | (with_reducible refine Kd.C_drew ?_))); (case side2 => exact HC0.out); rintro e w80 ⟨v504, rfl, ho0, hb⟩; refine ⟨_, rfl, ?_⟩; have n0_ := Aside0.mk (Kd.R_elder' (by (with_reducible repeat (first | apply Kd.R_alloc | apply Kd.R_drewN | apply Kd.R_drew)); exact HO_8.out) (Kd.R_base ho0) hb); have n1_ := Aside0.mk (Kd.R_elder' (by (with_reducible repeat (first | apply Kd.R_alloc | apply Kd.R_drewN | apply Kd.R_drew)); exact HO_13.out) (Kd.R_base ho0) hb); have n2_ := Aside0.mk (Kd.R_lower (Kd.R_new' (Kd.R_new' ho0 (Kd.R_lt (by (with_reducible repeat (first | apply Kd.R_alloc | apply Kd.R_drewN | apply Kd.R_drew)); exact HO_8.out))) (Kd.R_lt (by (with_reducible repeat (first | apply Kd.R_alloc | apply Kd.R_drewN | apply Kd.R_drew)); exact HO_13.out))) (below_size (by repeat (first | (with_reducible first | exact HB.out | apply below_alloc | apply pw_below_drewN | apply below_drew1) | exact HB.out)))); have n3_ := Aside0.mk (below_step (by repeat (first | (with_reducible first | exact HB.out | apply below_alloc | apply pw_below_drewN | apply below_drew1) | exact HB.out)) hb); clear HO_8; clear HO_13; clear HB; have HO_8 := n0_; have HO_13 := n1_; have HO505 := n2_; have HB := n3_; clear n0_ n1_ n2_ n3_; (try clear hb); (try clear hb2); (try clear hk); (try clear hi); (try clear ho0)) | ((with_reducible refine gate_callee (f := 19) rfl ?_); refine goesL_ (some 117) rfl rfl Try.func19 (by kernel_rfl) rfl #[.slice A1 l1.length c1] rfl (by (try simp only [List.map_toArray, List.map_cons, List.map_nil]); first | done | rfl | (simp only [List.length_drop, List.length_take]; rfl)) ?_; (with_reducible refine (laws_toLegS.calls kj49 _ _ l1 t506 _ ?side1 ?side2 A74.out).mono ?_); (case side1 => repeat (first | exact (Kd.C_below HR1.out HB.out) | (with_reducible refine Kd.C_alloc ?_ _) | (with_reducible refine Kd.C_drewN ?_ _) | (with_reducible refine Kd.C_drew ?_))); (case side2 => exact HC1.out); rintro e w81 ⟨v507, rfl, ho0, hb⟩; refine ⟨_, rfl, ?_⟩; have n0_ := Aside0.mk (Kd.R_below (by (with_reducible repeat (first | apply Kd.R_alloc | apply Kd.R_drewN | apply Kd.R_drew)); exact HO_8.out) hb); have n1_ := Aside0.mk (Kd.R_below (by (with_reducible repeat (first | apply Kd.R_alloc | apply Kd.R_drewN | apply Kd.R_drew)); exact HO_13.out) hb); have n2_ := Aside0.mk (Kd.R_below (by (with_reducible repeat (first | apply Kd.R_alloc | apply Kd.R_drewN | apply Kd.R_drew)); exact HO505.out) hb); have n3_ := Aside0.mk (Kd.R_lower ho0 (below_size (by repeat (first | (with_reducible first | exact HB.out | apply below_alloc | apply pw_below_drewN | apply below_drew1) | exact HB.out)))); have n4_ := Aside0.mk (below_step (by repeat (first | (with_reducible first | exact HB.out | apply below_alloc | apply pw_below_drewN | apply below_drew1) | exact HB.out)) hb); clear HO_8; clear HO_13; clear HO505; clear HB; have HO_8 := n0_; have HO_13 := n1_; have HO505 := n2_; have HO508 := n3_; have HB := n4_; clear n0_ n1_ n2_ n3_ n4_; (try clear hb); (try clear hb2); (try clear hk); (try clear hi); (try clear ho0)) | ((with_reducible refine gate_callee (f := 31) rfl ?_); refine goesL_ (some 119) rfl rfl Try.func31 (by kernel_rfl) rfl #[.slice A2 l2.length c2] rfl (by (try simp only [List.map_toArray, List.map_cons, List.map_nil]); first | done | rfl | (simp only [List.length_drop, List.length_take]; rfl)) ?_; (with_reducible refine (laws_toIntS.calls kj49 _ _ l2 t509 _ ?side1 ?side2 A75.out).mono ?_); (case side1 => repeat (first | exact (Kd.C_below HR2.out HB.out) | (with_reducible refine Kd.C_alloc ?_ _) | (with_reducible refine Kd.C_drewN ?_ _) | (with_reducible refine Kd.C_drew ?_))); (case side2 => exact HC2.out); rintro e w82 ⟨v510, rfl, ho0, hb⟩; refine ⟨_, rfl, ?_⟩; have n0_ := Aside0.mk (Kd.R_below (by (with_reducible repeat (first | apply Kd.R_alloc | apply Kd.R_drewN | apply Kd.R_drew)); exact HO_8.out) hb); have n1_ := Aside0.mk (Kd.R_below (by (with_reducible repeat (first | apply Kd.R_alloc | apply Kd.R_drewN | apply Kd.R_drew)); exact HO_13.out) hb); have n2_ := Aside0.mk (Kd.R_below (by (with_reducible repeat (first | apply Kd.R_alloc | apply Kd.R_drewN | apply Kd.R_drew)); exact HO505.out) hb); have n3_ := Aside0.mk (Kd.R_below (by (with_reducible repeat (first | apply Kd.R_alloc | apply Kd.R_drewN | apply Kd.R_drew)); exact HO508.out) hb); have n4_ := Aside0.mk (Kd.R_lower ho0 (below_size (by repeat (first | (with_reducible first | exact HB.out | apply below_alloc | apply pw_below_drewN | apply below_drew1) | exact HB.out)))); have n5_ := Aside0.mk (below_step (by repeat (first | (with_reducible first | exact HB.out | apply below_alloc | apply pw_below_drewN | apply below_drew1) | exact HB.out)) hb); clear HO_8; clear HO_13; clear HO505; clear HO508; clear HB; have HO_8 := n0_; have HO_13 := n1_; have HO505 := n2_; have HO508 := n3_; have HO511 := n4_; have HB := n5_; clear n0_ n1_ n2_ n3_ n4_ n5_; (try clear hb); (try clear hb2); (try clear hk); (try clear hi); (try clear ho0); obtain ⟨Ao83, co83, eo83⟩ := Kd.R_slice HO505.out; subst eo83; obtain ⟨Ao84, co84, eo84⟩ := Kd.R_slice HO508.out; subst eo84; obtain ⟨Ao85, co85, eo85⟩ := Kd.R_slice HO511.out; subst eo85) | ((with_reducible refine gate_callee (f := 32) rfl ?_); refine goesL_ (some 120) rfl rfl Try.func32 (by kernel_rfl) rfl #[.slice Ao83 t503.length co83, .slice Ao84 t506.length co84, .slice Ao85 t509.length co85] rfl (by (try simp only [List.map_toArray, List.map_cons, List.map_nil]); first | done | rfl | (simp only [List.length_drop, List.length_take]; rfl)) ?_; (with_reducible refine (impl_BalsPost.calls kj49 _ _ t503 _ _ t506 _ _ t509 t512 t513 _ ?side1 ?side2 ?side3 ?side4 ?side5 ?side6 A76.out).mono ?_); (case side1 => repeat (first | exact (Kd.R_reads' HO505.out).2.2 | (with_reducible refine Kd.C_alloc ?_ _) | (with_reducible refine Kd.C_drewN ?_ _) | (with_reducible refine Kd.C_drew ?_))); (case side2 => exact (Kd.R_reads' HO505.out).2.1); (case side3 => repeat (first | exact (Kd.R_reads' HO508.out).2.2 | (with_reducible refine Kd.C_alloc ?_ _) | (with_reducible refine Kd.C_drewN ?_ _) | (with_reducible refine Kd.C_drew ?_))); (case side4 => exact (Kd.R_reads' HO508.out).2.1); (case side5 => repeat (first | exact (Kd.R_reads' HO511.out).2.2 | (with_reducible refine Kd.C_alloc ?_ _) | (with_reducible refine Kd.C_drewN ?_ _) | (with_reducible refine Kd.C_drew ?_))); (case side6 => exact (Kd.R_reads' HO511.out).2.1); rintro e w86 ⟨v514, rfl, ho0, hb⟩; refine ⟨_, rfl, ?_⟩; have n0_ := Aside0.mk (Kd.R_elder' (by (with_reducible repeat (first | apply Kd.R_alloc | apply Kd.R_drewN | apply Kd.R_drew)); exact HO_8.out) (Kd.R_base ho0) hb); have n1_ := Aside0.mk (Kd.R_elder' (by (with_reducible repeat (first | apply Kd.R_alloc | apply Kd.R_drewN | apply Kd.R_drew)); exact HO_13.out) (Kd.R_base ho0) hb); have n2_ := Aside0.mk (Kd.R_elder' (by (with_reducible repeat (first | apply Kd.R_alloc | apply Kd.R_drewN | apply Kd.R_drew)); exact HO505.out) (Kd.R_base ho0) hb); have n3_ := Aside0.mk (Kd.R_below (by (with_reducible repeat (first | apply Kd.R_alloc | apply Kd.R_drewN | apply Kd.R_drew)); exact HO508.out) hb); have n4_ := Aside0.mk (Kd.R_below (by (with_reducible repeat (first | apply Kd.R_alloc | apply Kd.R_drewN | apply Kd.R_drew)); exact HO511.out) hb); have n5_ := Aside0.mk (Kd.R_lower (Kd.R_new' (Kd.R_new' (Kd.R_new' ho0 (Kd.R_lt (by (with_reducible repeat (first | apply Kd.R_alloc | apply Kd.R_drewN | apply Kd.R_drew)); exact HO_8.out))) (Kd.R_lt (by (with_reducible repeat (first | apply Kd.R_alloc | apply Kd.R_drewN | apply Kd.R_drew)); exact HO_13.out))) (Kd.R_lt (by (with_reducible repeat (first | apply Kd.R_alloc | apply Kd.R_drewN | apply Kd.R_drew)); exact HO505.out))) (below_size (by repeat (first | (with_reducible first | exact HB.out | apply below_alloc | apply pw_below_drewN | apply below_drew1) | exact HB.out)))); have n6_ := Aside0.mk (below_step (by repeat (first | (with_reducible first | exact HB.out | apply below_alloc | apply pw_below_drewN | apply below_drew1) | exact HB.out)) hb); clear HO_8; clear HO_13; clear HO505; clear HO508; clear HO511; clear HB; have HO_8 := n0_; have HO_13 := n1_; have HO505 := n2_; have HO508 := n3_; have HO511 := n4_; have HO515 := n5_; have HB := n6_; clear n0_ n1_ n2_ n3_ n4_ n5_ n6_; (try clear hb); (try clear hb2); (try clear hk); (try clear hi); (try clear ho0)))
               (try simp only [Act.put, List.setIfInBounds_toArray, List.set_cons_zero, List.set_cons_succ])
               go_cut [131] (fun v131 wc => ∃ (kq : Nat) (x131_76 : Bool), v131 = .bool x131_76 ∧ Aside0 (laws_FnExactBalsPost.j2 kq t501 t500 x131_76 = some r) ∧ Aside0 (kq ≤ kj49) ∧ Aside0 (Kd.R k58 58 wc w.heap.size (fun _ => True) (.slice Ao78 t476.length co78) t501) ∧ Aside0 (Below w.heap.size w wc))
               case first =>
                have H := HC77.out
                clear HC77
                replace H := Option.bind_eq_some_iff.mp H
                obtain ⟨t516, A870, H⟩ := H
                replace H : (if t516 = true then (laws_FnExactBalsPost.j2 kj49 t501 t500 (t513 != t464)) else (none)) = some r := H
                have A87 := Aside0.mk A870
                clear A870
                by_cases c88 : t516 = true
                ·
                 subst c88
                 have H1 : (laws_FnExactBalsPost.j2 kj49 t501 t500 (t513 != t464)) = some r := by rw [if_pos rfl] at H; exact H
                 clear H
                 have H := H1
                 clear H1
                 have H' := Aside0.mk H
                 clear H
                 obtain ⟨Ao89, co89, eo89⟩ := Kd.R_slice HO515.out
                 subst eo89
                 obtain ⟨Ao90, co90, eo90⟩ := Kd.R_slice HO_8.out
                 subst eo90
                 go_wp2_with (first | ((with_reducible refine gate_callee (f := 16) rfl ?_); refine goesL_ (some 125) rfl rfl Try.func16 (by kernel_rfl) rfl #[.slice Ao89 t512.length co89, .slice Ao90 t463.length co90] rfl (by (try simp only [List.map_toArray, List.map_cons, List.map_nil]); first | done | rfl | (simp only [List.length_drop, List.length_take]; rfl)) ?_; (with_reducible refine (laws_eqBalS.calls kj49 _ _ t512 _ _ t463 true _ ?side1 ?side2 ?side3 ?side4 A87.out).mono ?_); (case side1 => repeat (first | exact (Kd.R_reads' HO515.out).2.2 | (with_reducible refine Kd.C_alloc ?_ _) | (with_reducible refine Kd.C_drewN ?_ _) | (with_reducible refine Kd.C_drew ?_))); (case side2 => exact (Kd.R_reads' HO515.out).2.1); (case side3 => repeat (first | exact (Kd.R_reads' HO_8.out).2.2 | (with_reducible refine Kd.C_alloc ?_ _) | (with_reducible refine Kd.C_drewN ?_ _) | (with_reducible refine Kd.C_drew ?_))); (case side4 => exact (Kd.R_reads' HO_8.out).2.1); rintro e w91 ⟨rfl, hb⟩; refine ⟨_, rfl, ?_⟩; have n0_ := Aside0.mk (Kd.R_below (by (with_reducible repeat (first | apply Kd.R_alloc | apply Kd.R_drewN | apply Kd.R_drew)); exact HO_8.out) hb); have n1_ := Aside0.mk (Kd.R_below (by (with_reducible repeat (first | apply Kd.R_alloc | apply Kd.R_drewN | apply Kd.R_drew)); exact HO_13.out) hb); have n2_ := Aside0.mk (Kd.R_below (by (with_reducible repeat (first | apply Kd.R_alloc | apply Kd.R_drewN | apply Kd.R_drew)); exact HO505.out) hb); have n3_ := Aside0.mk (Kd.R_below (by (with_reducible repeat (first | apply Kd.R_alloc | apply Kd.R_drewN | apply Kd.R_drew)); exact HO508.out) hb); have n4_ := Aside0.mk (Kd.R_below (by (with_reducible repeat (first | apply Kd.R_alloc | apply Kd.R_drewN | apply Kd.R_drew)); exact HO511.out) hb); have n5_ := Aside0.mk (Kd.R_below (by (with_reducible repeat (first | apply Kd.R_alloc | apply Kd.R_drewN | apply Kd.R_drew)); exact HO515.out) hb); have n6_ := Aside0.mk (below_step (by repeat (first | (with_reducible first | exact HB.out | apply below_alloc | apply pw_below_drewN | apply below_drew1) | exact HB.out)) hb); clear HO_8; clear HO_13; clear HO505; clear HO508; clear HO511; clear HO515; clear HB; have HO_8 := n0_; have HO_13 := n1_; have HO505 := n2_; have HO508 := n3_; have HO511 := n4_; have HO515 := n5_; have HB := n6_; clear n0_ n1_ n2_ n3_ n4_ n5_ n6_; (try clear hb); (try clear hb2); (try clear hk); (try clear hi)))
                 go_meet
                 case rel => exact ⟨_, ((t513 != t464)), (by first | rfl | (simp; done) | (simp [*]; done)), H', ⟨by have := HJ16.out; have := HJ49.out; first | omega | exact Nat.le_refl _⟩, ⟨by (with_reducible repeat (first | apply Kd.R_alloc | apply Kd.R_drewN | apply Kd.R_drew)); exact Kd.R_mono HO_13.out (fun _ hk => trivial)⟩, ⟨by repeat (first | (with_reducible first | exact HB.out | apply below_alloc | apply pw_below_drewN | apply below_drew1) | exact HB.out)⟩⟩
                ·
                 replace c88 := Bool.eq_false_iff.mpr c88
                 subst c88
                 have H1 : (none) = some r := by rw [if_neg (show ¬ (false = true) by decide)] at H; exact H
                 clear H
                 have H := H1
                 clear H1
                 exact absurd H (by simp)
               case rest =>
                clear HC77
                try clear c1
                try clear c2
                try clear p2
                try clear c3
                try clear c4
                try clear c4b0
                try clear c4b1
                try clear c6
                try clear c6b0
                try clear c7
                try clear c8
                try clear c8b0
                try clear c12
                try clear c14
                try clear c16
                try clear c17
                try clear c19
                try clear c21
                try clear c28
                try clear c29
                try clear c30
                try clear c31
                try clear c32
                try clear c33
                try clear c34
                try clear c35
                try clear c37
                try clear c40
                try clear c43
                try clear c46
                try clear c62
                try clear c62b0
                try clear c64
                try clear c68
                try clear c71
                try clear c71b0
                try clear c72
                try clear c72b0
                try clear c72b1
                try clear c88
                try clear p2
                obtain ⟨kq, x131_76, rfl, HA, HJ76, HO_13, HB⟩ := hcut
                have hl13_76 := (Kd.R_reads' HO_13.out).1
                rw [hl13_76] at HO_13
                (try simp only [hl13_76])
                cases kq with
                | zero => exact absurd HA.out (by simp [laws_FnExactBalsPost.j2])
                | succ kj76 =>
                 have H := HA.out
                 clear HA
                 simp only [laws_FnExactBalsPost.j2] at H
                 by_cases c92 : x131_76 = true
                 ·
                  subst c92
                  have H1 : (none) = some r := by rw [if_pos rfl] at H; exact H
                  clear H
                  have H := H1
                  clear H1
                  exact absurd H (by simp)
                 ·
                  replace c92 := Bool.eq_false_iff.mpr c92
                  subst c92
                  have H1 : ((laws_heldBalS.f kj76 t501 1).bind fun t517 => (if t517 < 0 then (none) else (if t517 = t500 then (some true) else (none)))) = some r := by rw [if_neg (show ¬ (false = true) by decide)] at H; exact H
                  clear H
                  have H := H1
                  clear H1
                  replace H := Option.bind_eq_some_iff.mp H
                  obtain ⟨t517, A930, H⟩ := H
                  replace H : (if t517 < 0 then (none) else (if t517 = t500 then (some true) else (none))) = some r := H
                  have A93 := Aside0.mk A930
                  clear A930
                  by_cases c94 : t517 < 0
                  ·
                   rw [if_pos c94] at H
                   exact absurd H (by simp)
                  ·
                   rw [if_neg c94] at H
                   have c94b0 : decide (t517 < 0) = false := decide_eq_false c94
                   clear c94
                   by_cases c95 : t517 = t500
                   ·
                    rw [if_pos c95] at H
                    have c95b0 : (t517 == t500) = true := beq_iff_eq.mpr c95
                    have c95b1 : (t517 != t500) = false := bne_eq_false_iff_eq.mpr c95
                    clear c95
                    obtain rfl := Option.some.inj H
                    go_wp2_with (first | ((with_reducible refine gate_callee (f := 29) rfl ?_); refine goesL_ (some 134) rfl rfl Try.func29 (by kernel_rfl) rfl #[.slice Ao78 t501.length co78, .int .i64 1] rfl (by (try simp only [List.map_toArray, List.map_cons, List.map_nil]); first | done | rfl | (simp only [List.length_drop, List.length_take]; rfl)) ?_; (with_reducible refine (laws_heldBalS.calls kj76 _ _ t501 1 t517 _ ?side1 ?side2 A93.out).mono ?_); (case side1 => repeat (first | exact (Kd.R_reads' HO_13.out).2.2 | (with_reducible refine Kd.C_alloc ?_ _) | (with_reducible refine Kd.C_drewN ?_ _) | (with_reducible refine Kd.C_drew ?_))); (case side2 => exact (Kd.R_reads' HO_13.out).2.1); rintro e w' ⟨rfl, ⟨nd, rfl⟩⟩; refine ⟨_, rfl, ?_⟩))
                    go_ret
                    exact ⟨by first | rfl | (simp [errW_none, errW_some] <;> rfl) | (simp [*, errW_none, errW_some] <;> rfl), by repeat (first | (with_reducible first | exact HB.out | apply below_alloc | apply pw_below_drewN | apply below_drew1) | exact HB.out)⟩
                   ·
                    rw [if_neg c95] at H
                    exact absurd H (by simp)
              ·
               rw [if_neg c72] at H
               exact absurd H (by simp)
         ·
          replace c46 := Bool.eq_false_iff.mpr c46
          subst c46
          have H1 : (none) = some r := by rw [if_neg (show ¬ (false = true) by decide)] at H; exact H
          clear H
          have H := H1
          clear H1
          exact absurd H (by simp)
        ·
         replace c43 := Bool.eq_false_iff.mpr c43
         subst c43
         have H1 : (none) = some r := by rw [if_neg (show ¬ (false = true) by decide)] at H; exact H
         clear H
         have H := H1
         clear H1
         exact absurd H (by simp)
       ·
        replace c40 := Bool.eq_false_iff.mpr c40
        subst c40
        have H1 : (none) = some r := by rw [if_neg (show ¬ (false = true) by decide)] at H; exact H
        clear H
        have H := H1
        clear H1
        exact absurd H (by simp)
end Go.Proofs.Ytpcjpjjkaplebaa.P
namespace Go.Proofs.Ytpcjpjjkaplebaa.EV
open Go Go.RowKit Go.Proofs.YtpcjpjjkaplebaaW.PrintWords
theorem w64_in (n : Int) (h0 : -9223372036854775808 ≤ n) (h1 : n ≤ 9223372036854775807) : wrap64 n = n := by unfold wrap64; omega
theorem w_succ {i n : Nat} (h : i < n) (hn : n ≤ 9223372036854775807) : wrap64 ((i : Int) + 1) = ((i + 1 : Nat) : Int) := by unfold wrap64; omega
theorem w_pred {i n : Nat} (h : i < n) (hp : 0 < i) (hn : n ≤ 9223372036854775807) : wrap64 ((i : Int) - 1) = ((i - 1 : Nat) : Int) := by unfold wrap64; omega
theorem Ev_one {α : Type} {g : Nat → Option α} {r : α} (h : ∀ k, g (k + 1) = some r) : Ev g r := ⟨1, fun k hk => by
  obtain ⟨k, rfl⟩ : ∃ m, k = m + 1 := ⟨k - 1, by omega⟩
  exact h k⟩
theorem Ev_all_k {α : Type} {g : Nat → Option α} {r : α} (h : ∀ k, g k = some r) : Ev g r := ⟨0, fun k _ => h k⟩
theorem Ev_bind {α β : Type} {g : Nat → Option α} {f : Nat → α → Option β} {a : α} {r : β} (h : Ev g a) (k : Ev (fun n => f n a) r) : Ev (fun n => (g n).bind (f n)) r := Ev.bind h k
theorem Ev_asks (l : Nat → Int → Option Bool) (n : Nat) (G : Nat → Prop) (fin : Bool) (h0 : Ev (fun k => l k (n : Int)) fin)
    (hs : ∀ i : Nat, i < n → (G i ∧ ∀ k, l (k + 1) (i : Int) = l k ((i + 1 : Nat) : Int)) ∨ (¬ G i ∧ ∀ k, l (k + 1) (i : Int) = some false)) :
    ∀ (d i : Nat), n - i = d → i ≤ n → ∃ r, Ev (fun k => l k (i : Int)) r ∧ (r = true ↔ (∀ j, i ≤ j → j < n → G j) ∧ fin = true) := by
  intro d
  induction d with
  | zero =>
    intro i hd hi
    obtain rfl : i = n := by omega
    exact ⟨fin, h0, ⟨fun h => ⟨fun j h1 h2 => by omega, h⟩, fun h => h.2⟩⟩
  | succ d ih =>
    intro i hd hi
    rcases hs i (by omega) with ⟨hg, he⟩ | ⟨hg, he⟩
    · obtain ⟨r, hr, hiff⟩ := ih (i + 1) (by omega) (by omega)
      refine ⟨r, Ev.step he hr, ?_⟩
      rw [hiff]
      constructor
      · rintro ⟨h1, h2⟩
        refine ⟨fun j h3 h4 => ?_, h2⟩
        rcases Nat.eq_or_lt_of_le h3 with h5 | h5
        · exact h5 ▸ hg
        · exact h1 j h5 h4
      · rintro ⟨h1, h2⟩
        exact ⟨fun j h3 h4 => h1 j (by omega) h4, h2⟩
    · refine ⟨false, Ev_one he, ⟨fun h => Bool.noConfusion h, fun h => absurd (h.1 i (Nat.le_refl _) (by omega)) hg⟩⟩
theorem Ev_goes {σ ρ : Type} (l : Nat → σ → Int → Option ρ) (n : Nat) (F : Nat → σ → ρ) (Inv : Nat → σ → Prop)
    (h0 : ∀ s, Inv n s → Ev (fun k => l k s (n : Int)) (F n s))
    (hs : ∀ (i : Nat) s, i < n → Inv i s → (Ev (fun k => l k s (i : Int)) (F i s)) ∨ ∃ s', Inv (i + 1) s' ∧ F (i + 1) s' = F i s ∧ ∀ k, l (k + 1) s (i : Int) = l k s' ((i + 1 : Nat) : Int)) :
    ∀ (d i : Nat) s, n - i = d → i ≤ n → Inv i s → Ev (fun k => l k s (i : Int)) (F i s) := by
  intro d
  induction d with
  | zero =>
    intro i s hd hi hinv
    obtain rfl : i = n := by omega
    exact h0 s hinv
  | succ d ih =>
    intro i s hd hi hinv
    rcases hs i s (by omega) hinv with h | ⟨s', h1, h2, h3⟩
    · exact h
    · exact h2 ▸ Ev.step h3 (ih (i + 1) s' (by omega) (by omega) h1)
theorem Ev_goes' {σ ρ : Type} (l : Nat → σ → Int → Option ρ) (n : Nat) (F : Nat → σ → ρ) (Inv : Nat → σ → Prop)
    (h0 : ∀ s, Inv n s → Ev (fun k => l k s (n : Int)) (F n s))
    (hs : ∀ (i : Nat) s, i < n → Inv i s → (Ev (fun k => l k s (i : Int)) (F i s)) ∨ ∃ s', Inv (i + 1) s' ∧ F (i + 1) s' = F i s ∧ ∀ r, Ev (fun k => l k s' ((i + 1 : Nat) : Int)) r → Ev (fun k => l k s (i : Int)) r) :
    ∀ (d i : Nat) s, n - i = d → i ≤ n → Inv i s → Ev (fun k => l k s (i : Int)) (F i s) := by
  intro d
  induction d with
  | zero =>
    intro i s hd hi hinv
    obtain rfl : i = n := by omega
    exact h0 s hinv
  | succ d ih =>
    intro i s hd hi hinv
    rcases hs i s (by omega) hinv with h | ⟨s', h1, h2, h3⟩
    · exact h
    · exact h2 ▸ h3 _ (ih (i + 1) s' (by omega) (by omega) h1)
theorem Ev_asks' (l : Nat → Int → Option Bool) (n : Nat) (G : Nat → Prop) (fin : Bool) (h0 : Ev (fun k => l k (n : Int)) fin)
    (hs : ∀ i : Nat, i < n → (G i ∧ ∀ r, Ev (fun k => l k ((i + 1 : Nat) : Int)) r → Ev (fun k => l k (i : Int)) r) ∨ (¬ G i ∧ Ev (fun k => l k (i : Int)) false)) :
    ∀ (d i : Nat), n - i = d → i ≤ n → ∃ r, Ev (fun k => l k (i : Int)) r ∧ (r = true ↔ (∀ j, i ≤ j → j < n → G j) ∧ fin = true) := by
  intro d
  induction d with
  | zero =>
    intro i hd hi
    obtain rfl : i = n := by omega
    exact ⟨fin, h0, ⟨fun h => ⟨fun j h1 h2 => by omega, h⟩, fun h => h.2⟩⟩
  | succ d ih =>
    intro i hd hi
    rcases hs i (by omega) with ⟨hg, he⟩ | ⟨hg, he⟩
    · obtain ⟨r, hr, hiff⟩ := ih (i + 1) (by omega) (by omega)
      refine ⟨r, he r hr, ?_⟩
      rw [hiff]
      constructor
      · rintro ⟨h1, h2⟩
        refine ⟨fun j h3 h4 => ?_, h2⟩
        rcases Nat.eq_or_lt_of_le h3 with h5 | h5
        · exact h5 ▸ hg
        · exact h1 j h5 h4
      · rintro ⟨h1, h2⟩
        exact ⟨fun j h3 h4 => h1 j (by omega) h4, h2⟩
    · exact ⟨false, he, ⟨fun h => Bool.noConfusion h, fun h => absurd (h.1 i (Nat.le_refl _) (by omega)) hg⟩⟩
theorem drop_getD {α : Type} (z : α) (l : List α) (i : Nat) (h : i < l.length) : l.drop i = l.getD i z :: l.drop (i + 1) := by
  rw [List.drop_eq_getElem_cons h, List.getD_eq_getElem?_getD, List.getElem?_eq_getElem h]
  rfl
theorem getD_set {α : Type} (l : List α) (i j : Nat) (x z : α) : (l.set i x).getD j z = if i = j ∧ j < l.length then x else l.getD j z := by
  rw [List.getD_eq_getElem?_getD, List.getElem?_set, List.getD_eq_getElem?_getD]
  by_cases h : i = j
  · subst h
    by_cases h2 : i < l.length
    · simp [h2]
    · simp [h2]
  · simp [h]
theorem ext_getD {α : Type} (z : α) {a b : List α} (hl : a.length = b.length) (h : ∀ i, i < a.length → a.getD i z = b.getD i z) : a = b := by
  apply List.ext_getElem hl
  intro i h1 h2
  have := h i h1
  rw [List.getD_eq_getElem?_getD, List.getD_eq_getElem?_getD, List.getElem?_eq_getElem h1, List.getElem?_eq_getElem h2] at this
  simpa using this
end Go.Proofs.Ytpcjpjjkaplebaa.EV
namespace Go.Proofs.Ytpcjpjjkaplebaa.I1
open Go Go.RowKit Go.Proofs.Ytpcjpjjkaplebaa.P Go.Proofs.YtpcjpjjkaplebaaW.PrintWords Go.Proofs.YtpcjpjjkaplebaaW.PrintLast
theorem in_i (a lo hi : Int) : impl_in.f a lo hi = some (decide (lo ≤ a ∧ a ≤ hi)) := by
  unfold impl_in.f
  by_cases h : a ≥ lo
  · rw [if_pos h]
    congr 1
    rw [Bool.eq_iff_iff, decide_eq_true_iff, decide_eq_true_iff]
    omega
  · rw [if_neg h]
    congr 1
    symm
    rw [decide_eq_false_iff_not]
    omega
theorem in_s (a lo hi : Int) : spec_l1In.f a lo hi = some (decide (lo ≤ a ∧ a ≤ hi)) := by
  unfold spec_l1In.f
  by_cases h : a ≥ lo
  · rw [if_pos h]
    congr 1
    rw [Bool.eq_iff_iff, decide_eq_true_iff, decide_eq_true_iff]
    omega
  · rw [if_neg h]
    congr 1
    symm
    rw [decide_eq_false_iff_not]
    omega
end Go.Proofs.Ytpcjpjjkaplebaa.I1
namespace Go.Proofs.Ytpcjpjjkaplebaa.N1
open Go Go.RowKit Go.Proofs.Ytpcjpjjkaplebaa.P Go.Proofs.YtpcjpjjkaplebaaW.PrintWords Go.Proofs.YtpcjpjjkaplebaaW.PrintLast Go.Proofs.Ytpcjpjjkaplebaa.EV Go.Proofs.Ytpcjpjjkaplebaa.I1
def No (a : Int) : Prop := 1 ≤ a ∧ a ≤ 1000
def Amt (a : Int) : Prop := -1000000000000000 ≤ a ∧ a ≤ 1000000000000000
instance (a : Int) : Decidable (No a) := by unfold No; exact inferInstance
instance (a : Int) : Decidable (Amt a) := by unfold Amt; exact inferInstance
theorem no_s (a : Int) : spec_l3No.f a = some (decide (No a)) := by unfold spec_l3No.f; rw [in_s]; rfl
theorem no_i (a : Int) : impl_isNo.f a = some (decide (No a)) := by unfold impl_isNo.f; rw [in_i]; rfl
theorem amt_s (a : Int) : spec_AmountOk.f a = some (decide (Amt a)) := by unfold spec_AmountOk.f; rw [in_s]; rfl
theorem amt_i (a : Int) : impl_AmountOk.f a = some (decide (Amt a)) := by unfold impl_AmountOk.f; rw [in_i]; rfl
end Go.Proofs.Ytpcjpjjkaplebaa.N1
namespace Go.Proofs.Ytpcjpjjkaplebaa.B1
open Go Go.RowKit Go.Proofs.Ytpcjpjjkaplebaa.P Go.Proofs.YtpcjpjjkaplebaaW.PrintWords Go.Proofs.YtpcjpjjkaplebaaW.PrintLast Go.Proofs.Ytpcjpjjkaplebaa.EV Go.Proofs.Ytpcjpjjkaplebaa.I1 Go.Proofs.Ytpcjpjjkaplebaa.N1
def Bef (a b c d : Int) : Prop := a < c ∨ (a = c ∧ b < d)
instance (a b c d : Int) : Decidable (Bef a b c d) := by unfold Bef; exact inferInstance
def cmp (a b c d : Int) : Int := if Bef a b c d then -1 else (if a = c ∧ b = d then 0 else 1)
theorem before_s (a b c d : Int) : spec_l4Before.f a b c d = some (decide (Bef a b c d)) := by
  unfold spec_l4Before.f
  by_cases h : a < c
  · rw [if_pos h, decide_eq_true (show Bef a b c d from .inl h)]
  · rw [if_neg h]
    by_cases h2 : a = c
    · rw [if_pos h2]
      congr 1
      rw [Bool.eq_iff_iff, decide_eq_true_iff, decide_eq_true_iff]
      exact ⟨fun g => .inr ⟨h2, g⟩, fun g => g.elim (fun g => absurd g h) (fun g => g.2)⟩
    · rw [if_neg h2, decide_eq_false (show ¬ Bef a b c d from fun g => g.elim h fun g => h2 g.1)]
theorem both_i (a b c d : Int) : Ev (fun k => impl_byBoth.f k a b c d) (cmp a b c d) := by
  unfold impl_byBoth.f
  have yes : Bef a b c d → Ev (fun k => impl_byBoth.j0 k a b c d true) (cmp a b c d) := fun h => Ev_one fun k => by
    simp only [impl_byBoth.j0]
    rw [if_pos trivial]
    unfold cmp
    rw [if_pos h]
  have no : ¬ Bef a b c d → Ev (fun k => impl_byBoth.j0 k a b c d false) (cmp a b c d) := fun h => Ev_one fun k => by
    simp only [impl_byBoth.j0]
    rw [if_neg (by decide)]
    unfold cmp
    rw [if_neg h]
    by_cases h1 : a = c
    · by_cases h2 : b = d
      · rw [if_pos h1, if_pos h2, if_pos ⟨h1, h2⟩]
      · rw [if_pos h1, if_neg h2, if_neg fun g => h2 g.2]
    · rw [if_neg h1, if_neg fun g => h1 g.1]
  by_cases h : a < c
  · exact Ev.congr (fun k => by rw [if_pos h]) (yes (.inl h))
  · by_cases h2 : a = c
    · by_cases h3 : b < d
      · exact Ev.congr (fun k => by rw [if_neg h, if_pos h2, decide_eq_true h3]) (yes (.inr ⟨h2, h3⟩))
      · exact Ev.congr (fun k => by rw [if_neg h, if_pos h2, decide_eq_false h3]) (no fun g => g.elim h fun g => h3 g.2)
    · exact Ev.congr (fun k => by rw [if_neg h, if_neg h2]) (no fun g => g.elim h fun g => h2 g.1)
theorem cmp_neg {a b c d : Int} : cmp a b c d ≥ 0 ↔ ¬ Bef a b c d := by
  unfold cmp
  by_cases h : Bef a b c d
  · rw [if_pos h]
    exact ⟨fun g => absurd g (by decide), fun g => absurd h g⟩
  · rw [if_neg h]
    refine ⟨fun _ => h, fun _ => ?_⟩
    split <;> decide
theorem cmp_zero {a b c d : Int} : cmp a b c d = 0 ↔ a = c ∧ b = d := by
  unfold cmp
  by_cases h : Bef a b c d
  · rw [if_pos h]
    refine ⟨fun g => absurd g (by decide), fun g => ?_⟩
    unfold Bef at h
    omega
  · rw [if_neg h]
    by_cases h2 : a = c ∧ b = d
    · rw [if_pos h2]; exact ⟨fun _ => h2, fun _ => rfl⟩
    · rw [if_neg h2]; exact ⟨fun g => absurd g (by decide), fun g => absurd g h2⟩
theorem rdB (l : List S58) (i : Nat) : rd_T58 l (i : Int) = l.getD i z58 := by unfold rd_T58; rw [Int.toNat_natCast]
def GoodB (l : List S58) (j : Nat) : Prop :=
  No (l.getD j z58).f0 ∧ No (l.getD j z58).f1 ∧ Amt (l.getD j z58).f2 ∧ (l.getD j z58).f2 ≠ 0 ∧ (0 < j → Bef (l.getD (j - 1) z58).f0 (l.getD (j - 1) z58).f1 (l.getD j z58).f0 (l.getD j z58).f1)
def OkB (l : List S58) : Prop := l.length ≤ 160 ∧ ∀ j, j < l.length → GoodB l j
noncomputable def okB (l : List S58) : Bool := @decide (OkB l) (Classical.propDecidable _)
theorem okB_iff (l : List S58) : okB l = true ↔ OkB l := by unfold okB; exact @decide_eq_true_iff _ (Classical.propDecidable _)
theorem okB_no {l : List S58} (h : ¬ OkB l) : okB l = false := by rw [Bool.eq_false_iff, Ne, okB_iff]; exact h
theorem balsOk_s (l : List S58) : Ev (fun k => spec_BalsOk.f k l) (okB l) := by
  unfold spec_BalsOk.f
  by_cases hn : (l.length : Int) > 160
  · rw [okB_no fun h => by have := h.1; omega]
    exact Ev_all_k fun k => by rw [if_pos hn]
  · obtain ⟨r, hr, hiff⟩ := Ev_asks (fun k i => spec_BalsOk.l0 k l i) l.length (GoodB l) true
      (Ev_one fun k => by simp only [spec_BalsOk.l0]; rw [if_neg (by omega)])
      (fun i hi => by
        have e : ∀ k, spec_BalsOk.l0 (k + 1) l (i : Int) = if No (l.getD i z58).f0 then (if No (l.getD i z58).f1 then (if Amt (l.getD i z58).f2 then (if (l.getD i z58).f2 = 0 then some false else (if 0 < i then (if Bef (l.getD (i - 1) z58).f0 (l.getD (i - 1) z58).f1 (l.getD i z58).f0 (l.getD i z58).f1 then spec_BalsOk.l0 k l ((i + 1 : Nat) : Int) else some false) else spec_BalsOk.l0 k l ((i + 1 : Nat) : Int))) else some false) else some false) else some false := by
          intro k
          simp only [spec_BalsOk.l0]
          rw [if_pos (by omega), if_pos (by omega), w_succ hi (by omega)]
          by_cases h0 : 0 < i
          · rw [w_pred hi h0 (by omega)]
            simp only [no_s, amt_s, before_s, Option.bind_some, decide_eq_true_iff, rdB]
            simp only [if_pos (show (i : Int) > 0 by omega), if_pos (show (0 : Int) ≤ ((i - 1 : Nat) : Int) by omega), if_pos (show ((i - 1 : Nat) : Int) < (l.length : Int) by omega), if_pos h0]
          · simp only [no_s, amt_s, before_s, Option.bind_some, decide_eq_true_iff, rdB]
            simp only [if_neg (show ¬ (i : Int) > 0 by omega), if_neg h0]
        by_cases hg : GoodB l i
        · refine .inl ⟨hg, fun k => ?_⟩
          obtain ⟨g1, g2, g3, g4, g5⟩ := hg
          show spec_BalsOk.l0 (k + 1) l (i : Int) = _
          rw [e k, if_pos g1, if_pos g2, if_pos g3, if_neg g4]
          split
          · rename_i h0
            rw [if_pos (g5 h0)]
          · rfl
        · refine .inr ⟨hg, fun k => ?_⟩
          show spec_BalsOk.l0 (k + 1) l (i : Int) = _
          rw [e k]
          unfold GoodB at hg
          split
          · rename_i h1
            split
            · rename_i h2
              split
              · rename_i h3
                split
                · rfl
                · rename_i h4
                  split
                  · rw [if_neg (fun h6 => hg ⟨h1, h2, h3, h4, fun _ => h6⟩)]
                  · rename_i h5
                    exact absurd ⟨h1, h2, h3, h4, fun h6 => absurd h6 h5⟩ hg
              · rfl
            · rfl
          · rfl) l.length 0 (by omega) (by omega)
    have hq : r = okB l := by
      rw [Bool.eq_iff_iff, hiff, okB_iff]
      exact ⟨fun h => ⟨by omega, fun j hj => h.1 j (Nat.zero_le _) hj⟩, fun h => ⟨fun j _ hj => h.2 j hj, rfl⟩⟩
    subst hq
    exact Ev.congr (fun k => by rw [if_neg hn]; rfl) hr
theorem balsOk_i (l : List S58) (hm : l.length ≤ 9223372036854775807) : Ev (fun k => impl_BalsOk.f k l) (okB l) := by
  unfold impl_BalsOk.f
  obtain ⟨r, hr, hiff⟩ := Ev_asks' (fun k i => impl_BalsOk.l0 k l l (l.length : Int) i) l.length (GoodB l) (decide ((l.length : Int) ≤ 160))
      (Ev_one fun k => by simp only [impl_BalsOk.l0]; rw [if_neg (by omega)])
      (fun i hi => by
        -- the round's first part: what it asks of the balance itself
        have e : ∀ k, impl_BalsOk.l0 (k + 1) l l (l.length : Int) (i : Int) = impl_BalsOk.j1 k l (i : Int) l (l.length : Int) (i : Int) (!decide (No (l.getD i z58).f0 ∧ No (l.getD i z58).f1 ∧ Amt (l.getD i z58).f2 ∧ (l.getD i z58).f2 ≠ 0)) (l.getD i z58).f0 (l.getD i z58).f1 (l.getD i z58).f2 := by
          intro k
          simp only [impl_BalsOk.l0]
          rw [if_pos (by omega), if_pos (by omega), if_pos (by omega)]
          simp only [no_i, amt_i, Option.bind_some, decide_eq_true_iff, rdB]
          by_cases h1 : No (l.getD i z58).f0
          · by_cases h2 : No (l.getD i z58).f1
            · by_cases h3 : Amt (l.getD i z58).f2
              · rw [if_pos h1, if_pos h2, if_pos h3]
                congr 1
                by_cases h4 : (l.getD i z58).f2 = 0
                · rw [decide_eq_false (fun g => g.2.2.2 h4), h4]; rfl
                · rw [decide_eq_true (show _ ∧ _ from ⟨h1, h2, h3, h4⟩)]; simpa using h4
              · rw [if_pos h1, if_pos h2, if_neg h3, decide_eq_false (fun g => h3 g.2.2.1)]; rfl
            · rw [if_pos h1, if_neg h2, decide_eq_false (fun g => h2 g.2.1)]; rfl
          · rw [if_neg h1, decide_eq_false (fun g => h1 g.1)]; rfl
        by_cases hw : No (l.getD i z58).f0 ∧ No (l.getD i z58).f1 ∧ Amt (l.getD i z58).f2 ∧ (l.getD i z58).f2 ≠ 0
        · by_cases h0 : 0 < i
          · have e2 : ∀ k, impl_BalsOk.j1 (k + 1) l (i : Int) l (l.length : Int) (i : Int) false (l.getD i z58).f0 (l.getD i z58).f1 (l.getD i z58).f2 = (impl_byBoth.f k (l.getD (i - 1) z58).f0 (l.getD (i - 1) z58).f1 (l.getD i z58).f0 (l.getD i z58).f1).bind fun t => if t ≥ 0 then some false else impl_BalsOk.l0 k l l (l.length : Int) ((i + 1 : Nat) : Int) := by
              intro k
              simp only [impl_BalsOk.j1]
              rw [if_neg (by decide), if_pos (by omega), w_pred hi h0 (by omega), if_pos (by omega), if_pos (by omega), w_succ hi (by omega)]
              simp only [rdB]
            by_cases hb : Bef (l.getD (i - 1) z58).f0 (l.getD (i - 1) z58).f1 (l.getD i z58).f0 (l.getD i z58).f1
            · refine .inl ⟨⟨hw.1, hw.2.1, hw.2.2.1, hw.2.2.2, fun _ => hb⟩, fun r hr => ?_⟩
              refine Ev.step (fun k => by rw [e k, decide_eq_true hw]) (Ev.step e2 (Ev_bind (both_i _ _ _ _) ?_))
              exact Ev.congr (fun k => by rw [if_neg (fun g => cmp_neg.1 g hb)]) hr
            · refine .inr ⟨fun g => hb (g.2.2.2.2 h0), ?_⟩
              refine Ev.step (fun k => by rw [e k, decide_eq_true hw]) (Ev.step e2 (Ev_bind (both_i _ _ _ _) ?_))
              exact Ev_all_k fun k => by rw [if_pos (cmp_neg.2 hb)]
          · refine .inl ⟨⟨hw.1, hw.2.1, hw.2.2.1, hw.2.2.2, fun g => absurd g h0⟩, fun r hr => ?_⟩
            refine Ev.step (fun k => by rw [e k, decide_eq_true hw]) (Ev.step (fun k => ?_) hr)
            show impl_BalsOk.j1 (k + 1) l (i : Int) l (l.length : Int) (i : Int) false _ _ _ = _
            simp only [impl_BalsOk.j1]
            rw [if_neg (by decide), if_neg (by omega), w_succ hi (by omega)]
        · refine .inr ⟨fun g => hw ⟨g.1, g.2.1, g.2.2.1, g.2.2.2.1⟩, ?_⟩
          refine Ev.step (fun k => by rw [e k, decide_eq_false hw]) (Ev_one fun k => ?_)
          show impl_BalsOk.j1 (k + 1) l (i : Int) l (l.length : Int) (i : Int) true _ _ _ = _
          simp only [impl_BalsOk.j1]
          rw [if_pos trivial]) l.length 0 (by omega) (by omega)
  have hq : r = okB l := by
    rw [Bool.eq_iff_iff, hiff, okB_iff, decide_eq_true_iff]
    exact ⟨fun h => ⟨by omega, fun j hj => h.1 j (Nat.zero_le _) hj⟩, fun h => ⟨fun j _ hj => h.2 j hj, by have := h.1; omega⟩⟩
  subst hq
  exact hr
end Go.Proofs.Ytpcjpjjkaplebaa.B1
namespace Go.Proofs.Ytpcjpjjkaplebaa.B2
open Go Go.RowKit Go.Proofs.Ytpcjpjjkaplebaa.P Go.Proofs.YtpcjpjjkaplebaaW.PrintWords Go.Proofs.YtpcjpjjkaplebaaW.PrintLast Go.Proofs.Ytpcjpjjkaplebaa.EV Go.Proofs.Ytpcjpjjkaplebaa.I1 Go.Proofs.Ytpcjpjjkaplebaa.N1 Go.Proofs.Ytpcjpjjkaplebaa.B1
abbrev SB := S58
def ofB (a b : Int) : List SB → Int
  | [] => 0
  | x :: l => if x.f0 = a ∧ x.f1 = b then x.f2 else ofB a b l
theorem ofB_drop (a b : Int) (l : List SB) (i : Nat) (hi : i < l.length) : ofB a b (l.drop i) = if (l.getD i z58).f0 = a ∧ (l.getD i z58).f1 = b then (l.getD i z58).f2 else ofB a b (l.drop (i + 1)) := by
  rw [drop_getD z58 l i hi]; rfl
theorem of_s (l : List SB) (a b : Int) (hm : l.length ≤ 9223372036854775807) : Ev (fun k => spec_l4Of.f k l a b) (ofB a b l) := by
  unfold spec_l4Of.f
  have h := Ev_goes (fun k (_ : Unit) i => spec_l4Of.l0 k l a b i) l.length (fun i _ => ofB a b (l.drop i)) (fun _ _ => True)
    (fun _ _ => Ev_one fun k => by
      simp only [spec_l4Of.l0]
      rw [if_neg (by omega), List.drop_length]
      rfl)
    (fun i _ hi _ => by
      by_cases h : (l.getD i z58).f0 = a ∧ (l.getD i z58).f1 = b
      · refine .inl (Ev_one fun k => ?_)
        simp only [spec_l4Of.l0, rdB]
        rw [if_pos (by omega), if_pos (by omega), if_pos h.1, if_pos h.2, ofB_drop a b l i hi, if_pos h]
      · refine .inr ⟨(), trivial, by show ofB a b (l.drop (i + 1)) = ofB a b (l.drop i); rw [ofB_drop a b l i hi, if_neg h], fun k => ?_⟩
        show spec_l4Of.l0 (k + 1) l a b (i : Int) = _
        simp only [spec_l4Of.l0, rdB]
        rw [if_pos (by omega), if_pos (by omega), w_succ hi (by omega)]
        by_cases h1 : (l.getD i z58).f0 = a
        · rw [if_pos h1, if_neg fun h2 => h ⟨h1, h2⟩]
        · rw [if_neg h1]) l.length 0 () (by omega) (by omega) trivial
  rw [List.drop_zero] at h
  exact h
theorem ahead {l : List SB} (h : ∀ j, j < l.length → GoodB l j) : ∀ (d i j : Nat), j - i = d → i < j → j < l.length → Bef (l.getD i z58).f0 (l.getD i z58).f1 (l.getD j z58).f0 (l.getD j z58).f1 := by
  intro d
  induction d with
  | zero => intro i j h1 h2; omega
  | succ d ih =>
    intro i j hd hi hj
    have g := (h j hj).2.2.2.2 (by omega)
    rcases Nat.lt_or_ge i (j - 1) with h2 | h2
    · have g2 := ih i (j - 1) (by omega) h2 (by omega)
      unfold Bef at *
      omega
    · obtain rfl : i = j - 1 := by omega
      exact g
theorem ofB_none (a b : Int) : ∀ (l : List SB), (∀ x ∈ l, ¬ (x.f0 = a ∧ x.f1 = b)) → ofB a b l = 0
  | [], _ => rfl
  | x :: l, h => by
    unfold ofB
    rw [if_neg (h x List.mem_cons_self)]
    exact ofB_none a b l fun y hy => h y (List.mem_cons_of_mem _ hy)
theorem mem_drop {l : List SB} {i : Nat} {x : SB} (h : x ∈ l.drop i) : ∃ j, i ≤ j ∧ j < l.length ∧ l.getD j z58 = x := by
  obtain ⟨j, hj, rfl⟩ := List.getElem_of_mem h
  rw [List.length_drop] at hj
  refine ⟨i + j, by omega, by omega, ?_⟩
  rw [List.getD_eq_getElem?_getD, List.getElem?_eq_getElem (by omega), List.getElem_drop]
  rfl
def atB (a b : Int) : List SB → Nat → Nat × Bool
  | [], i => (i, false)
  | x :: l, i => if cmp x.f0 x.f1 a b ≥ 0 then (i, cmp x.f0 x.f1 a b == 0) else atB a b l (i + 1)
theorem atB_drop (a b : Int) (l : List SB) (i : Nat) (hi : i < l.length) : atB a b (l.drop i) i = if cmp (l.getD i z58).f0 (l.getD i z58).f1 a b ≥ 0 then (i, cmp (l.getD i z58).f0 (l.getD i z58).f1 a b == 0) else atB a b (l.drop (i + 1)) (i + 1) := by
  rw [drop_getD z58 l i hi]; rfl
theorem atB_range (a b : Int) : ∀ (l : List SB) (i : Nat), i ≤ (atB a b l i).1 ∧ (atB a b l i).1 ≤ i + l.length ∧ ((atB a b l i).2 = true → (atB a b l i).1 < i + l.length)
  | [], i => by unfold atB; simp
  | x :: l, i => by
    unfold atB
    have := atB_range a b l (i + 1)
    rw [List.length_cons]
    split
    · exact ⟨Nat.le_refl _, by show i ≤ _; omega, fun _ => by show i < _; omega⟩
    · exact ⟨by omega, by omega, fun h => by have := this.2.2 h; omega⟩
theorem at_i (l : List SB) (a b : Int) (hm : l.length ≤ 9223372036854775807) : Ev (fun k => impl_balAt.f k l a b) (((atB a b l 0).1 : Int), (atB a b l 0).2) := by
  unfold impl_balAt.f
  have h := Ev_goes' (fun k (_ : Unit) i => impl_balAt.l0 k l a b l (l.length : Int) i) l.length (fun i _ => (((atB a b (l.drop i) i).1 : Int), (atB a b (l.drop i) i).2)) (fun _ _ => True)
    (fun _ _ => Ev_one fun k => by
      simp only [impl_balAt.l0]
      rw [if_neg (by omega), List.drop_length]
      rfl)
    (fun i _ hi _ => by
      have e : ∀ k, impl_balAt.l0 (k + 1) l a b l (l.length : Int) (i : Int) = (impl_byBoth.f k (l.getD i z58).f0 (l.getD i z58).f1 a b).bind fun t => if t ≥ 0 then some ((i : Int), t == 0) else impl_balAt.l0 k l a b l (l.length : Int) ((i + 1 : Nat) : Int) := by
        intro k
        simp only [impl_balAt.l0, rdB]
        rw [if_pos (by omega), if_pos (by omega), if_pos (by omega), w_succ hi (by omega)]
      by_cases h : cmp (l.getD i z58).f0 (l.getD i z58).f1 a b ≥ 0
      · refine .inl (Ev.step e (Ev_bind (both_i _ _ _ _) (Ev_all_k fun k => ?_)))
        rw [if_pos h, atB_drop a b l i hi, if_pos h]
      · refine .inr ⟨(), trivial, by show (((atB a b (l.drop (i + 1)) (i + 1)).1 : Int), (atB a b (l.drop (i + 1)) (i + 1)).2) = (((atB a b (l.drop i) i).1 : Int), (atB a b (l.drop i) i).2); rw [atB_drop a b l i hi, if_neg h], fun r hr => ?_⟩
        exact Ev.step e (Ev_bind (both_i _ _ _ _) (Ev.congr (fun k => by rw [if_neg h]) hr))) l.length 0 () (by omega) (by omega) trivial
  rw [List.drop_zero] at h
  exact h
theorem at_of {l : List SB} (h : ∀ j, j < l.length → GoodB l j) (a b : Int) : ∀ (d i : Nat), l.length - i = d → i ≤ l.length → (if (atB a b (l.drop i) i).2 = true then (l.getD (atB a b (l.drop i) i).1 z58).f2 else 0) = ofB a b (l.drop i) := by
  intro d
  induction d with
  | zero =>
    intro i hd hi
    obtain rfl : i = l.length := by omega
    rw [List.drop_length]
    rfl
  | succ d ih =>
    intro i hd hi
    have hi2 : i < l.length := by omega
    rw [atB_drop a b l i hi2, ofB_drop a b l i hi2]
    by_cases h1 : cmp (l.getD i z58).f0 (l.getD i z58).f1 a b ≥ 0
    · rw [if_pos h1]
      by_cases h2 : (l.getD i z58).f0 = a ∧ (l.getD i z58).f1 = b
      · rw [if_pos h2, cmp_zero.2 h2]
        rfl
      · rw [if_neg h2, if_neg (by simp only [beq_iff_eq]; rw [cmp_zero]; exact h2)]
        symm
        apply ofB_none
        intro x hx
        obtain ⟨j, hj1, hj2, rfl⟩ := mem_drop hx
        have g := ahead h (j - i) i j rfl (by omega) hj2
        have g2 := cmp_neg.1 h1
        unfold Bef at g g2
        omega
    · rw [if_neg h1, ih (i + 1) (by omega) (by omega)]
      rw [if_neg]
      intro h2
      exact h1 (by rw [cmp_zero.2 h2]; decide)
def told (n : Int) (ok : Bool) : Int × Bool := if ok = true ∧ Amt n then (n, true) else (0, false)
theorem told_s (n : Int) (ok : Bool) : spec_l1Told.f n ok = some (told n ok) := by
  unfold spec_l1Told.f told
  rw [amt_s, Option.bind_some]
  cases ok with
  | true =>
    rw [if_pos rfl]
    by_cases h : Amt n
    · rw [if_pos (decide_eq_true h), if_pos ⟨rfl, h⟩]
    · rw [if_neg (by rw [decide_eq_false h]; decide), if_neg fun g => h g.2]
  | false => rw [if_neg (by decide), if_neg fun g => absurd g.1 (by decide)]
end Go.Proofs.Ytpcjpjjkaplebaa.B2
namespace Go.Proofs.Ytpcjpjjkaplebaa.B3
open Go Go.RowKit Go.Proofs.Ytpcjpjjkaplebaa.P Go.Proofs.YtpcjpjjkaplebaaW.PrintWords Go.Proofs.YtpcjpjjkaplebaaW.PrintLast Go.Proofs.Ytpcjpjjkaplebaa.EV Go.Proofs.Ytpcjpjjkaplebaa.I1 Go.Proofs.Ytpcjpjjkaplebaa.N1 Go.Proofs.Ytpcjpjjkaplebaa.B1 Go.Proofs.Ytpcjpjjkaplebaa.B2
theorem take_getD {α : Type} (z : α) (l : List α) (i : Nat) (h : i < l.length) : l.take (i + 1) = l.take i ++ [l.getD i z] := by
  rw [List.take_add_one, List.getD_eq_getElem?_getD, List.getElem?_eq_getElem h]
  rfl
theorem getD_drop {α : Type} (z : α) (l : List α) (p i : Nat) : (l.drop p).getD i z = l.getD (p + i) z := by
  rw [List.getD_eq_getElem?_getD, List.getElem?_drop, List.getD_eq_getElem?_getD]
theorem getD_get {α : Type} (z : α) (l : List α) (i : Nat) (h : i < l.length) : l.getD i z = l[i] := by
  rw [List.getD_eq_getElem?_getD, List.getElem?_eq_getElem h]
  rfl
abbrev Lt (x y : SB) : Prop := Bef x.f0 x.f1 y.f0 y.f1
def Good1 (x : SB) : Prop := No x.f0 ∧ No x.f1 ∧ Amt x.f2 ∧ x.f2 ≠ 0
def SortB (l : List SB) : Prop := (∀ x ∈ l, Good1 x) ∧ l.Pairwise Lt
theorem sortB_good {l : List SB} (h : SortB l) : ∀ j, j < l.length → GoodB l j := by
  intro j hj
  have g : Good1 (l.getD j z58) := by rw [getD_get _ l j hj]; exact h.1 _ (List.getElem_mem hj)
  refine ⟨g.1, g.2.1, g.2.2.1, g.2.2.2, fun h0 => ?_⟩
  rw [getD_get _ l j hj, getD_get _ l (j - 1) (by omega)]
  exact List.pairwise_iff_getElem.1 h.2 (j - 1) j (by omega) hj (by omega)
theorem good_sortB {l : List SB} (h : ∀ j, j < l.length → GoodB l j) : SortB l := by
  refine ⟨fun x hx => ?_, List.pairwise_iff_getElem.2 fun i j hi hj hij => ?_⟩
  · obtain ⟨j, hj, rfl⟩ := List.getElem_of_mem hx
    have g := h j hj
    unfold GoodB at g
    rw [getD_get _ l j hj] at g
    exact ⟨g.1, g.2.1, g.2.2.1, g.2.2.2.1⟩
  · have g := B2.ahead h (j - i) i j rfl hij hj
    rw [getD_get _ l j hj, getD_get _ l i hi] at g
    exact g
theorem okB_sort (l : List SB) : OkB l ↔ l.length ≤ 160 ∧ SortB l := ⟨fun h => ⟨h.1, good_sortB h.2⟩, fun h => ⟨h.1, sortB_good h.2⟩⟩
def key (x : SB) (a b : Int) : Prop := x.f0 = a ∧ x.f1 = b
instance (x : SB) (a b : Int) : Decidable (key x a b) := by unfold key; exact inferInstance
theorem atB_skip (a b : Int) : ∀ (l : List SB) (i j : Nat), i + j < (atB a b l i).1 → Bef (l.getD j z58).f0 (l.getD j z58).f1 a b
  | [], i, j, h => by unfold atB at h; exact absurd h (by show ¬ (i + j < i); omega)
  | x :: l, i, j, h => by
    unfold atB at h
    split at h
    · exact absurd h (by show ¬ (i + j < i); omega)
    · rename_i hc
      have hb : Bef x.f0 x.f1 a b := by
        apply Classical.byContradiction
        intro g
        exact hc (cmp_neg.2 g)
      cases j with
      | zero => exact hb
      | succ j => exact atB_skip a b l (i + 1) j (by omega)
theorem atB_stop (a b : Int) : ∀ (l : List SB) (i : Nat), (atB a b l i).1 < i + l.length → ¬ Bef (l.getD ((atB a b l i).1 - i) z58).f0 (l.getD ((atB a b l i).1 - i) z58).f1 a b ∧ ((atB a b l i).2 = true ↔ key (l.getD ((atB a b l i).1 - i) z58) a b)
  | [], i, h => by unfold atB at h; exact absurd h (by simp)
  | x :: l, i, h => by
    have hr := atB_range a b l (i + 1)
    unfold atB at h ⊢
    split
    · rename_i hc
      rw [show (i, cmp x.f0 x.f1 a b == 0).1 - i = 0 by show i - i = 0; omega]
      refine ⟨cmp_neg.1 hc, ?_⟩
      show ((cmp x.f0 x.f1 a b == 0) = true ↔ key x a b)
      rw [beq_iff_eq, cmp_zero]
      rfl
    · rename_i hc
      rw [if_neg hc, List.length_cons] at h
      have g := atB_stop a b l (i + 1) (by omega)
      rw [show (atB a b l (i + 1)).1 - i = ((atB a b l (i + 1)).1 - (i + 1)) + 1 by omega]
      exact g
theorem atB_end (a b : Int) (l : List SB) (h : (atB a b l 0).1 = l.length) : (atB a b l 0).2 = false := by
  cases e : (atB a b l 0).2 with
  | false => rfl
  | true =>
    have := (atB_range a b l 0).2.2 e
    omega
def ins (a b n : Int) : List SB := if n = 0 then [] else [⟨a, b, n⟩]
def nxt (a b : Int) (l : List SB) : Nat := if (atB a b l 0).2 = true then (atB a b l 0).1 + 1 else (atB a b l 0).1
def putB (l : List SB) (a b n : Int) : List SB := l.take (atB a b l 0).1 ++ ins a b n ++ l.drop (nxt a b l)
theorem nxt_le (a b : Int) (l : List SB) : (atB a b l 0).1 ≤ nxt a b l ∧ nxt a b l ≤ l.length := by
  have := atB_range a b l 0
  unfold nxt
  split
  · rename_i h
    have := this.2.2 h
    omega
  · omega
theorem putB_len (l : List SB) (a b n : Int) : (putB l a b n).length ≤ l.length + 1 := by
  have := atB_range a b l 0
  have := nxt_le a b l
  unfold putB ins
  rw [List.length_append, List.length_append, List.length_take, List.length_drop]
  split <;> simp <;> omega
theorem clone_i (x : List SB) (hx : x.length ≤ 1048577) : impl_Bal_62.f x = some x := by
  unfold impl_Bal_62.f
  rw [Option.bind_some, List.length_nil, if_pos (by omega), List.nil_append]
theorem put_i (l : List SB) (a b n : Int) (hm : l.length ≤ 1048576) : Ev (fun k => impl_withBal.f k l a b n) (putB l a b n) := by
  unfold impl_withBal.f
  refine Ev.congr (fun k => by rw [clone_i l (by omega), Option.bind_some]) ?_
  refine Ev_bind (at_i l a b (by omega)) ?_
  have hr := atB_range a b l 0
  unfold putB nxt ins
  cases e : (atB a b l 0).2 with
  | true =>
    have hp := hr.2.2 e
    rw [if_pos (show true = true from rfl)]
    refine Ev_all_k fun k => ?_
    dsimp only
    rw [if_pos rfl, w_succ (n := l.length) (by omega) (by omega)]
    unfold impl_Bal_76.f
    rw [if_pos ⟨by omega, by omega, by omega, by omega⟩, Option.bind_some, Int.toNat_natCast, Int.toNat_natCast]
    by_cases h : n = 0
    · rw [if_pos h, if_pos h, List.append_nil]
    · rw [if_neg h, if_neg h]
      unfold impl_Bal_77.f
      have ll : (l.take (atB a b l 0).1 ++ l.drop ((atB a b l 0).1 + 1)).length = l.length - 1 := by simp; omega
      rw [if_pos ⟨by omega, by rw [ll]; omega, rfl, by rw [ll]; omega⟩, Option.bind_some, Int.toNat_natCast]
      have lt : (l.take (atB a b l 0).1).length = (atB a b l 0).1 := by rw [List.length_take]; omega
      rw [List.take_append_of_le_length (by omega), List.take_of_length_le (by omega), List.drop_append_of_le_length (by omega), List.drop_of_length_le (by omega), List.nil_append]
  | false =>
    rw [if_neg (show ¬ (false = true) by decide)]
    refine Ev_all_k fun k => ?_
    dsimp only
    rw [if_neg (show ¬ (false = true) by decide)]
    by_cases h : n = 0
    · rw [if_pos h, if_pos h, List.append_nil, List.take_append_drop]
    · rw [if_neg h, if_neg h]
      unfold impl_Bal_77.f
      rw [if_pos ⟨by omega, by omega, rfl, by omega⟩, Option.bind_some, Int.toNat_natCast]
theorem key_not {l : List SB} (h : SortB l) (a b : Int) (i : Nat) (hi : i < l.length) (hp : i ≠ (atB a b l 0).1) : ¬ key (l.getD i z58) a b := by
  intro g
  unfold key at g
  rcases Nat.lt_or_gt_of_ne hp with h1 | h1
  · have := atB_skip a b l 0 i (by omega)
    rw [g.1, g.2] at this
    unfold Bef at this
    omega
  · have h2 := (atB_stop a b l 0 (by omega)).1
    rw [Nat.sub_zero] at h2
    have h3 := B2.ahead (sortB_good h) (i - (atB a b l 0).1) _ i rfl h1 hi
    rw [g.1, g.2] at h3
    exact h2 h3
def Gs (l : List SB) (a b n : Int) (i : Nat) : List SB × Bool :=
  if i ≤ (atB a b l 0).1 then (l.take i, n == 0) else (l.take (atB a b l 0).1 ++ ins a b n ++ (l.drop (nxt a b l)).take (i - nxt a b l), true)
theorem put_s {l : List SB} (h : SortB l) (a b n : Int) (hm : l.length ≤ 1048576) : Ev (fun k => spec_l4Put.f k l a b n) (putB l a b n) := by
  unfold spec_l4Put.f
  have hr := atB_range a b l 0
  have hx := nxt_le a b l
  refine Ev_goes' (fun k (s : List SB × Bool) i => spec_l4Put.l0 k l a b s.1 s.2 i a b n) l.length (fun _ _ => putB l a b n) (fun i s => s = Gs l a b n i)
    (fun s hs => Ev_one fun k => ?_) (fun i s hi hs => .inr ⟨Gs l a b n (i + 1), rfl, rfl, fun r hr2 => ?_⟩) l.length 0 ([], n == 0) (by omega) (by omega) (by unfold Gs; rw [if_pos (Nat.zero_le _)]; rfl)
  · subst hs
    unfold Gs putB
    by_cases h1 : l.length ≤ (atB a b l 0).1
    · have e1 : (atB a b l 0).1 = l.length := by omega
      rw [if_pos h1]
      unfold nxt
      rw [atB_end a b l e1, if_neg (by decide), e1, List.take_length, List.drop_length, List.append_nil]
      dsimp only
      simp only [spec_l4Put.l0]
      rw [if_neg (by omega)]
      unfold ins
      by_cases hn : n = 0
      · rw [if_pos (by rw [hn]; rfl), if_pos hn, List.append_nil]
      · rw [if_neg (by rw [beq_iff_eq]; exact hn), if_neg hn, if_pos (by omega)]
    · rw [if_neg h1, List.take_of_length_le (l := l.drop (nxt a b l)) (by rw [List.length_drop]; exact Nat.le_refl _)]
      dsimp only
      simp only [spec_l4Put.l0]
      rw [if_neg (by omega), if_pos trivial]
  · subst hs
    have hk : ¬ i = (atB a b l 0).1 → ¬ ((l.getD i z58).f0 = a ∧ (l.getD i z58).f1 = b) := fun g => key_not h a b i hi g
    -- the round's second half where nothing is put
    have second : ∀ (out : List SB) (put : Bool) (r : List SB), out.length ≤ 1048577 → Ev (fun k => spec_l4Put.l0 k l a b (if (l.getD i z58).f0 = a ∧ (l.getD i z58).f1 = b then out else out ++ [l.getD i z58]) put ((i + 1 : Nat) : Int) a b n) r →
        Ev (fun k => spec_l4Put.j1 k l a b out put (i : Int) false a b n (l.getD i z58).f0 (l.getD i z58).f1 (l.getD i z58).f2) r := fun out put r ho hq => by
      refine Ev.step (fun k => ?_) hq
      show spec_l4Put.j1 (k + 1) l a b out put (i : Int) false a b n _ _ _ = _
      simp only [spec_l4Put.j1]
      rw [if_neg (by decide), w_succ hi (by omega)]
      by_cases g1 : (l.getD i z58).f0 = a
      · by_cases g2 : (l.getD i z58).f1 = b
        · rw [if_pos g1, if_pos g2, if_pos ⟨g1, g2⟩]
        · rw [if_pos g1, if_neg g2, if_pos (by omega), if_neg (fun g => g2 g.2)]
      · rw [if_neg g1, if_pos (by omega), if_neg (fun g => g1 g.1)]
    have first : ∀ (out : List SB) (r : List SB), Ev (fun k => spec_l4Put.j1 k l a b out true (i : Int) false a b n (l.getD i z58).f0 (l.getD i z58).f1 (l.getD i z58).f2) r → Ev (fun k => spec_l4Put.l0 k l a b out true (i : Int) a b n) r := fun out r hq => by
      refine Ev.step (fun k => ?_) hq
      show spec_l4Put.l0 (k + 1) l a b out true (i : Int) a b n = _
      simp only [spec_l4Put.l0, rdB]
      rw [if_pos (by omega), if_pos (by omega), if_pos trivial]
    have first2 : ∀ (out : List SB) (r : List SB), Ev (fun k => spec_l4Put.j1 k l a b out false (i : Int) (!decide (Bef (l.getD i z58).f0 (l.getD i z58).f1 a b)) a b n (l.getD i z58).f0 (l.getD i z58).f1 (l.getD i z58).f2) r → Ev (fun k => spec_l4Put.l0 k l a b out false (i : Int) a b n) r := fun out r hq => by
      refine Ev.step (fun k => ?_) hq
      show spec_l4Put.l0 (k + 1) l a b out false (i : Int) a b n = _
      simp only [spec_l4Put.l0, rdB]
      rw [if_pos (by omega), if_pos (by omega), if_neg (by decide), before_s, Option.bind_some]
    have lt : (l.take i).length ≤ 1048577 := by rw [List.length_take]; omega
    by_cases h1 : i < (atB a b l 0).1
    · have hb := atB_skip a b l 0 i (by omega)
      have hn := hk (by omega)
      unfold Gs at hr2 ⊢
      rw [if_pos (by omega)] at hr2
      rw [if_pos (by omega)]
      rw [take_getD z58 l i hi] at hr2
      have key2 := second (l.take i) (n == 0) r lt (by rw [if_neg hn]; exact hr2)
      dsimp only at hr2 ⊢
      cases e : (n == 0) with
      | true => rw [e] at key2; exact first _ r key2
      | false => rw [e] at key2; exact first2 _ r (by rw [decide_eq_true hb]; exact key2)
    · by_cases h2 : i = (atB a b l 0).1
      · have hs := atB_stop a b l 0 (by omega)
        rw [Nat.sub_zero, ← h2] at hs
        obtain ⟨hnb, hiff⟩ := hs
        unfold Gs at hr2 ⊢
        rw [if_neg (by omega)] at hr2
        rw [if_pos (by omega)]
        rw [← h2] at hr2
        have hrest : (if (l.getD i z58).f0 = a ∧ (l.getD i z58).f1 = b then l.take i ++ ins a b n else l.take i ++ ins a b n ++ [l.getD i z58]) = l.take i ++ ins a b n ++ (l.drop (nxt a b l)).take (i + 1 - nxt a b l) := by
          unfold nxt
          by_cases e : (atB a b l 0).2 = true
          · have hk1 : (l.getD i z58).f0 = a ∧ (l.getD i z58).f1 = b := hiff.1 e
            rw [if_pos hk1, if_pos e, ← h2, Nat.sub_self, List.take_zero, List.append_nil]
          · have hk1 : ¬ ((l.getD i z58).f0 = a ∧ (l.getD i z58).f1 = b) := fun g => e (hiff.2 g)
            rw [if_neg hk1, if_neg e, ← h2, show i + 1 - i = 0 + 1 by omega, drop_getD z58 l i hi, List.take_succ_cons, List.take_zero]
        rw [← hrest] at hr2
        dsimp only at hr2 ⊢
        by_cases hn : n = 0
        · subst hn
          have hi0 : ins a b 0 = [] := rfl
          rw [hi0, List.append_nil] at hr2
          exact first _ r (second (l.take i) true r lt hr2)
        · have e0 : (n == 0) = false := by rw [beq_eq_false_iff_ne]; exact hn
          rw [e0]
          refine first2 _ r ?_
          rw [decide_eq_false hnb]
          have hi0 : ins a b n = [⟨a, b, n⟩] := by unfold ins; rw [if_neg hn]
          rw [hi0] at hr2
          refine Ev.step (fun k => ?_) hr2
          show spec_l4Put.j1 (k + 1) l a b (l.take i) false (i : Int) true a b n _ _ _ = _
          simp only [spec_l4Put.j1]
          rw [if_pos trivial, if_pos (by omega), Option.bind_some, w_succ hi (by omega)]
          have ll : (l.take i ++ [(⟨a, b, n⟩ : SB)]).length < 5864062014805 := by rw [List.length_append, List.length_take]; simp; omega
          by_cases g1 : (l.getD i z58).f0 = a
          · by_cases g2 : (l.getD i z58).f1 = b
            · rw [if_pos g1, if_pos g2, if_pos ⟨g1, g2⟩]
            · rw [if_pos g1, if_neg g2, if_pos ll, if_neg (fun g => g2 g.2)]
          · rw [if_neg g1, if_pos ll, if_neg (fun g => g1 g.1)]
      · have hn := hk h2
        have hq : nxt a b l ≤ i := by unfold nxt; split <;> omega
        unfold Gs at hr2 ⊢
        rw [if_neg (by omega)] at hr2
        rw [if_neg (by omega)]
        have hg : (l.drop (nxt a b l)).take (i + 1 - nxt a b l) = (l.drop (nxt a b l)).take (i - nxt a b l) ++ [l.getD i z58] := by
          rw [show i + 1 - nxt a b l = (i - nxt a b l) + 1 by omega, take_getD z58 _ _ (by rw [List.length_drop]; omega), getD_drop, show nxt a b l + (i - nxt a b l) = i by omega]
        rw [hg, ← List.append_assoc] at hr2
        dsimp only at hr2 ⊢
        refine first _ r (second _ true r ?_ (by rw [if_neg hn]; exact hr2))
        rw [List.length_append, List.length_append, List.length_take, List.length_take, List.length_drop]
        unfold ins
        split <;> simp <;> omega
end Go.Proofs.Ytpcjpjjkaplebaa.B3
namespace Go.Proofs.Ytpcjpjjkaplebaa.B4
open Go Go.RowKit Go.Proofs.Ytpcjpjjkaplebaa.P Go.Proofs.YtpcjpjjkaplebaaW.PrintWords Go.Proofs.YtpcjpjjkaplebaaW.PrintLast Go.Proofs.Ytpcjpjjkaplebaa.EV Go.Proofs.Ytpcjpjjkaplebaa.I1 Go.Proofs.Ytpcjpjjkaplebaa.N1 Go.Proofs.Ytpcjpjjkaplebaa.B1 Go.Proofs.Ytpcjpjjkaplebaa.B2 Go.Proofs.Ytpcjpjjkaplebaa.B3
theorem mem_take_getD {l : List SB} {p : Nat} {x : SB} (h : x ∈ l.take p) : ∃ j, j < p ∧ j < l.length ∧ l.getD j z58 = x := by
  obtain ⟨j, hj, rfl⟩ := List.getElem_of_mem h
  rw [List.length_take] at hj
  refine ⟨j, by omega, by omega, ?_⟩
  rw [getD_get _ l j (by omega), List.getElem_take]
theorem take_before {l : List SB} (a b : Int) {x : SB} (hx : x ∈ l.take (atB a b l 0).1) : Bef x.f0 x.f1 a b := by
  obtain ⟨j, hj, _, rfl⟩ := mem_take_getD hx
  exact atB_skip a b l 0 j (by omega)
theorem drop_after {l : List SB} (h : SortB l) (a b : Int) {x : SB} (hx : x ∈ l.drop (nxt a b l)) : Bef a b x.f0 x.f1 := by
  obtain ⟨j, hj, hjl, rfl⟩ := mem_drop hx
  have hr := atB_range a b l 0
  have hn := nxt_le a b l
  have hp : (atB a b l 0).1 < l.length := by omega
  obtain ⟨h1, h2⟩ := atB_stop a b l 0 (by omega)
  rw [Nat.sub_zero] at h1 h2
  unfold nxt at hj
  by_cases e : (atB a b l 0).2 = true
  · rw [if_pos e] at hj
    have hk := h2.1 e
    have h3 := B2.ahead (sortB_good h) (j - (atB a b l 0).1) _ j rfl (by omega) hjl
    rw [hk.1, hk.2] at h3
    exact h3
  · rw [if_neg e] at hj
    have hk : ¬ key (l.getD (atB a b l 0).1 z58) a b := fun g => e (h2.2 g)
    have h4 : Bef a b (l.getD (atB a b l 0).1 z58).f0 (l.getD (atB a b l 0).1 z58).f1 := by
      unfold Bef key at *
      omega
    rcases Nat.eq_or_lt_of_le hj with h5 | h5
    · rw [← h5]; exact h4
    · have h3 := B2.ahead (sortB_good h) (j - (atB a b l 0).1) _ j rfl h5 hjl
      unfold Bef at *
      omega
theorem bef_trans {a b c d e f : Int} (h : Bef a b c d) (k : Bef c d e f) : Bef a b e f := by
  unfold Bef at *
  omega
theorem putB_sort {l : List SB} (h : SortB l) {a b n : Int} (ha : No a) (hb : No b) (hn : Amt n) : SortB (putB l a b n) := by
  have hins : ∀ x ∈ ins a b n, x = ⟨a, b, n⟩ ∧ n ≠ 0 := by
    intro x hx
    unfold ins at hx
    split at hx
    · cases hx
    · rename_i h0
      exact ⟨by simpa using hx, h0⟩
  refine ⟨fun x hx => ?_, ?_⟩
  · unfold putB at hx
    rw [List.mem_append, List.mem_append] at hx
    rcases hx with (hx | hx) | hx
    · exact h.1 x (List.mem_of_mem_take hx)
    · obtain ⟨rfl, h0⟩ := hins x hx
      exact ⟨ha, hb, hn, h0⟩
    · exact h.1 x (List.mem_of_mem_drop hx)
  · unfold putB
    have p1 : (l.take (atB a b l 0).1).Pairwise Lt := h.2.sublist (List.take_sublist _ _)
    have p2 : (l.drop (nxt a b l)).Pairwise Lt := h.2.sublist (List.drop_sublist _ _)
    have p3 : (ins a b n).Pairwise Lt := by
      unfold ins
      split
      · exact List.Pairwise.nil
      · exact List.pairwise_singleton _ _
    rw [List.pairwise_append, List.pairwise_append]
    refine ⟨⟨p1, p3, fun x hx y hy => ?_⟩, p2, fun x hx y hy => ?_⟩
    · obtain ⟨rfl, _⟩ := hins y hy
      exact take_before a b hx
    · rcases List.mem_append.1 hx with hx | hx
      · exact bef_trans (take_before a b hx) (drop_after h a b hy)
      · obtain ⟨rfl, _⟩ := hins x hx
        exact drop_after h a b hy
theorem ofB_mem : ∀ {l : List SB}, l.Pairwise Lt → ∀ x ∈ l, ofB x.f0 x.f1 l = x.f2
  | [], _, x, hx => by cases hx
  | y :: l, h, x, hx => by
    rw [List.pairwise_cons] at h
    unfold ofB
    rcases List.mem_cons.1 hx with rfl | hx
    · rw [if_pos ⟨rfl, rfl⟩]
    · have := h.1 x hx
      rw [if_neg (by unfold Lt Bef at this; omega)]
      exact ofB_mem h.2 x hx
end Go.Proofs.Ytpcjpjjkaplebaa.B4
namespace Go.Proofs.Ytpcjpjjkaplebaa.G1
open Go Go.RowKit Go.Proofs.Ytpcjpjjkaplebaa.P Go.Proofs.YtpcjpjjkaplebaaW.PrintWords Go.Proofs.YtpcjpjjkaplebaaW.PrintLast Go.Proofs.Ytpcjpjjkaplebaa.EV Go.Proofs.Ytpcjpjjkaplebaa.I1 Go.Proofs.Ytpcjpjjkaplebaa.N1
abbrev SL := S61
theorem rdL (l : List SL) (i : Nat) : rd_T61 l (i : Int) = l.getD i z61 := by unfold rd_T61; rw [Int.toNat_natCast]
def GoodL (x : SL) : Prop := No x.f0 ∧ No x.f1 ∧ Amt x.f2
instance (x : SL) : Decidable (GoodL x) := by unfold GoodL; exact inferInstance
def RightL (l : List SL) : Prop := l.length ≤ 160 ∧ ∀ x ∈ l, GoodL x
noncomputable def rightL (l : List SL) : Bool := @decide (RightL l) (Classical.propDecidable _)
theorem rightL_iff (l : List SL) : rightL l = true ↔ RightL l := by unfold rightL; exact @decide_eq_true_iff _ (Classical.propDecidable _)
theorem rightL_no {l : List SL} (h : ¬ RightL l) : rightL l = false := by rw [Bool.eq_false_iff, Ne, rightL_iff]; exact h
theorem RightL.at {l : List SL} (h : RightL l) (i : Nat) (hi : i < l.length) : GoodL (l.getD i z61) := by
  have : l.getD i z61 = l[i] := by rw [List.getD_eq_getElem?_getD, List.getElem?_eq_getElem hi]; rfl
  rw [this]
  exact h.2 _ (List.getElem_mem hi)
theorem right_s (l : List SL) : Ev (fun k => spec_l4LegsRight.f k l) (rightL l) := by
  unfold spec_l4LegsRight.f
  by_cases hn : (l.length : Int) > 160
  · rw [rightL_no fun h => by have := h.1; omega]
    exact Ev_all_k fun k => by rw [if_pos hn]
  · obtain ⟨r, hr, hiff⟩ := Ev_asks (fun k i => spec_l4LegsRight.l0 k l i) l.length (fun j => GoodL (l.getD j z61)) true
      (Ev_one fun k => by simp only [spec_l4LegsRight.l0]; rw [if_neg (by omega)])
      (fun i hi => by
        have e : ∀ k, spec_l4LegsRight.l0 (k + 1) l (i : Int) = if No (l.getD i z61).f0 then (if No (l.getD i z61).f1 then (if Amt (l.getD i z61).f2 then spec_l4LegsRight.l0 k l ((i + 1 : Nat) : Int) else some false) else some false) else some false := by
          intro k
          simp only [spec_l4LegsRight.l0]
          rw [if_pos (by omega), if_pos (by omega), w_succ hi (by omega)]
          simp only [no_s, amt_s, Option.bind_some, decide_eq_true_iff, rdL]
        by_cases hg : GoodL (l.getD i z61)
        · refine .inl ⟨hg, fun k => ?_⟩
          show spec_l4LegsRight.l0 (k + 1) l (i : Int) = _
          rw [e k, if_pos hg.1, if_pos hg.2.1, if_pos hg.2.2]
        · refine .inr ⟨hg, fun k => ?_⟩
          show spec_l4LegsRight.l0 (k + 1) l (i : Int) = _
          rw [e k]
          unfold GoodL at hg
          split
          · rename_i h1
            split
            · rename_i h2
              split
              · rename_i h3
                exact absurd ⟨h1, h2, h3⟩ hg
              · rfl
            · rfl
          · rfl) l.length 0 (by omega) (by omega)
    have hq : r = rightL l := by
      rw [Bool.eq_iff_iff, hiff, rightL_iff]
      refine ⟨fun h => ⟨by omega, fun x hx => ?_⟩, fun h => ⟨fun j _ hj => h.at j hj, rfl⟩⟩
      obtain ⟨j, hj, rfl⟩ := List.getElem_of_mem hx
      have := h.1 j (Nat.zero_le _) hj
      rw [List.getD_eq_getElem?_getD, List.getElem?_eq_getElem hj] at this
      exact this
    subst hq
    exact Ev.congr (fun k => by rw [if_neg hn]; rfl) hr
theorem right_i (l : List SL) : impl_legsForm.f l = some (rightL l) := by
  unfold impl_legsForm.f
  congr 1
  rw [Bool.eq_iff_iff, rightL_iff, Bool.and_eq_true, decide_eq_true_iff, Bool.not_eq_true', List.any_eq_false]
  unfold RightL
  have e : ∀ x : SL, (¬ impl_legsForm.bad x = true) ↔ GoodL x := fun x => by
    unfold impl_legsForm.bad GoodL No Amt
    rw [Bool.not_eq_true', Bool.not_eq_false, decide_eq_true_iff]
  constructor
  · rintro ⟨h1, h2⟩
    exact ⟨by omega, fun x hx => (e x).1 (h2 x hx)⟩
  · rintro ⟨h1, h2⟩
    exact ⟨by omega, fun x hx => (e x).2 (h2 x hx)⟩
def sumL (a : Int) : List SL → Int
  | [] => 0
  | x :: l => (if x.f1 = a then x.f2 else 0) + sumL a l
theorem sumL_drop (a : Int) (l : List SL) (i : Nat) (hi : i < l.length) : sumL a (l.drop i) = (if (l.getD i z61).f1 = a then (l.getD i z61).f2 else 0) + sumL a (l.drop (i + 1)) := by
  rw [drop_getD z61 l i hi]; rfl
theorem sumL_bound {l : List SL} (h : RightL l) (a : Int) : ∀ (d i : Nat), l.length - i = d → i ≤ l.length → -(1000000000000000 * (l.length - i : Int)) ≤ sumL a (l.drop i) ∧ sumL a (l.drop i) ≤ 1000000000000000 * (l.length - i : Int) := by
  intro d
  induction d with
  | zero =>
    intro i hd hi
    obtain rfl : i = l.length := by omega
    rw [List.drop_length]
    unfold sumL
    omega
  | succ d ih =>
    intro i hd hi
    rw [sumL_drop a l i (by omega)]
    have := ih (i + 1) (by omega) (by omega)
    have g : Amt _ := (h.at i (by omega)).2.2
    unfold Amt at g
    split <;> omega
def EvenL (l : List SL) : Prop := ∀ j, j < l.length → sumL (l.getD j z61).f1 l = 0
def OkL (l : List SL) : Prop := RightL l ∧ EvenL l
noncomputable def okL (l : List SL) : Bool := @decide (OkL l) (Classical.propDecidable _)
theorem okL_iff (l : List SL) : okL l = true ↔ OkL l := by unfold okL; exact @decide_eq_true_iff _ (Classical.propDecidable _)
theorem okL_no {l : List SL} (h : ¬ OkL l) : okL l = false := by rw [Bool.eq_false_iff, Ne, okL_iff]; exact h
theorem legsOk_s (l : List SL) : Ev (fun k => spec_LegsOk.f k l) (okL l) := by
  unfold spec_LegsOk.f
  refine Ev_bind (right_s l) ?_
  by_cases h : RightL l
  · have h1 := h.1
    have hb := fun a i hi => sumL_bound h a (l.length - i) i rfl hi
    obtain ⟨r, hr, hiff⟩ := Ev_asks' (fun k i => spec_LegsOk.l0 k l i) l.length (fun j => sumL (l.getD j z61).f1 l = 0) true
      (Ev_one fun k => by simp only [spec_LegsOk.l0]; rw [if_neg (by omega)])
      (fun i hi => by
        have key : ∀ q, Ev (fun k => if sumL (l.getD i z61).f1 l = 0 then spec_LegsOk.l0 k l ((i + 1 : Nat) : Int) else some false) q → Ev (fun k => spec_LegsOk.l0 k l (i : Int)) q := fun q hq => by
          refine Ev.step (f := fun k => spec_LegsOk.l1 k l (i : Int) 0 0) (fun k => by simp only [spec_LegsOk.l0]; rw [if_pos (by omega)]) ?_
          refine (Ev_goes' (fun k s j => spec_LegsOk.l1 k l (i : Int) s j) l.length (fun _ _ => q) (fun j s => s + sumL (l.getD i z61).f1 (l.drop j) = sumL (l.getD i z61).f1 l)
            (fun s hs => by
              rw [List.drop_length] at hs
              have hs2 : s = sumL (l.getD i z61).f1 l := by rw [← hs]; show s = s + 0; omega
              refine Ev.step (fun k => ?_) hq
              show spec_LegsOk.l1 (k + 1) l (i : Int) s (l.length : Int) = _
              simp only [spec_LegsOk.l1]
              rw [if_neg (by omega), w_succ hi (by omega), hs2])
            (fun j s hj hs => by
              have e := sumL_drop (l.getD i z61).f1 l j hj
              have b0 := hb (l.getD i z61).f1 0 (by omega)
              have b1 := hb (l.getD i z61).f1 (j + 1) (by omega)
              rw [List.drop_zero] at b0
              refine .inr ⟨s + (if (l.getD j z61).f1 = (l.getD i z61).f1 then (l.getD j z61).f2 else 0), by omega, rfl, fun r hr => Ev.step (fun k => ?_) hr⟩
              show spec_LegsOk.l1 (k + 1) l (i : Int) s (j : Int) = _
              simp only [spec_LegsOk.l1, rdL]
              rw [if_pos (by omega), if_pos (by omega), if_pos (by omega), if_pos (by omega), w_succ hj (by omega)]
              by_cases h2 : (l.getD j z61).f1 = (l.getD i z61).f1
              · rw [if_pos h2] at e
                rw [if_pos h2, if_pos h2, w64_in _ (by omega) (by omega)]
              · rw [if_neg h2, if_neg h2, Int.add_zero]) l.length 0 0 (by omega) (by omega) (by rw [List.drop_zero]; omega) : Ev (fun k => spec_LegsOk.l1 k l (i : Int) 0 ((0 : Nat) : Int)) q)
        by_cases hg : sumL (l.getD i z61).f1 l = 0
        · exact .inl ⟨hg, fun r hr => key r (Ev.congr (fun k => by rw [if_pos hg]) hr)⟩
        · exact .inr ⟨hg, key false (Ev_all_k fun k => by rw [if_neg hg])⟩) l.length 0 (by omega) (by omega)
    have hq : r = okL l := by
      rw [Bool.eq_iff_iff, hiff, okL_iff]
      exact ⟨fun g => ⟨h, fun j hj => g.1 j (Nat.zero_le _) hj⟩, fun g => ⟨fun j _ hj => g.2 j hj, rfl⟩⟩
    subst hq
    exact Ev.congr (fun k => by rw [if_pos ((rightL_iff l).2 h)]; rfl) hr
  · rw [okL_no fun g => h g.1]
    exact Ev_all_k fun k => by rw [if_neg (by rw [rightL_no h]; decide)]
theorem legsOk_i (l : List SL) : Ev (fun k => impl_LegsOk.f k l) (okL l) := by
  unfold impl_LegsOk.f
  by_cases h : RightL l
  · have h1 := h.1
    have hb := fun a i hi => sumL_bound h a (l.length - i) i rfl hi
    obtain ⟨r, hr, hiff⟩ := Ev_asks' (fun k i => impl_LegsOk.l0 k l l (l.length : Int) i) l.length (fun j => sumL (l.getD j z61).f1 l = 0) true
      (Ev_one fun k => by simp only [impl_LegsOk.l0]; rw [if_neg (by omega)])
      (fun i hi => by
        have key : ∀ q, Ev (fun k => if sumL (l.getD i z61).f1 l = 0 then impl_LegsOk.l0 k l l (l.length : Int) ((i + 1 : Nat) : Int) else some false) q → Ev (fun k => impl_LegsOk.l0 k l l (l.length : Int) (i : Int)) q := fun q hq => by
          refine Ev.step (f := fun k => impl_LegsOk.l1 k l 0 l (l.length : Int) (i : Int) l (l.length : Int) 0 (l.getD i z61).f0 (l.getD i z61).f1 (l.getD i z61).f2) (fun k => by simp only [impl_LegsOk.l0, rdL]; rw [if_pos (by omega), if_pos (by omega), if_pos (by omega)]) ?_
          refine (Ev_goes' (fun k s j => impl_LegsOk.l1 k l s l (l.length : Int) (i : Int) l (l.length : Int) j (l.getD i z61).f0 (l.getD i z61).f1 (l.getD i z61).f2) l.length (fun _ _ => q) (fun j s => s + sumL (l.getD i z61).f1 (l.drop j) = sumL (l.getD i z61).f1 l)
            (fun s hs => by
              rw [List.drop_length] at hs
              have hs2 : s = sumL (l.getD i z61).f1 l := by rw [← hs]; show s = s + 0; omega
              refine Ev.step (fun k => ?_) hq
              show impl_LegsOk.l1 (k + 1) l s l (l.length : Int) (i : Int) l (l.length : Int) (l.length : Int) _ _ _ = _
              simp only [impl_LegsOk.l1]
              rw [if_neg (by omega), w_succ hi (by omega), hs2])
            (fun j s hj hs => by
              have e := sumL_drop (l.getD i z61).f1 l j hj
              have b0 := hb (l.getD i z61).f1 0 (by omega)
              have b1 := hb (l.getD i z61).f1 (j + 1) (by omega)
              rw [List.drop_zero] at b0
              refine .inr ⟨s + (if (l.getD j z61).f1 = (l.getD i z61).f1 then (l.getD j z61).f2 else 0), by omega, rfl, fun r hr => Ev.step (fun k => ?_) hr⟩
              show impl_LegsOk.l1 (k + 1) l s l (l.length : Int) (i : Int) l (l.length : Int) (j : Int) _ _ _ = _
              simp only [impl_LegsOk.l1, rdL]
              rw [if_pos (by omega), if_pos (by omega), if_pos (by omega), w_succ hj (by omega)]
              by_cases h2 : (l.getD j z61).f1 = (l.getD i z61).f1
              · rw [if_pos h2] at e
                rw [if_pos h2, if_pos h2, w64_in _ (by omega) (by omega)]
              · rw [if_neg h2, if_neg h2, Int.add_zero]) l.length 0 0 (by omega) (by omega) (by rw [List.drop_zero]; omega) : Ev (fun k => impl_LegsOk.l1 k l 0 l (l.length : Int) (i : Int) l (l.length : Int) ((0 : Nat) : Int) (l.getD i z61).f0 (l.getD i z61).f1 (l.getD i z61).f2) q)
        by_cases hg : sumL (l.getD i z61).f1 l = 0
        · exact .inl ⟨hg, fun r hr => key r (Ev.congr (fun k => by rw [if_pos hg]) hr)⟩
        · exact .inr ⟨hg, key false (Ev_all_k fun k => by rw [if_neg hg])⟩) l.length 0 (by omega) (by omega)
    have hq : r = okL l := by
      rw [Bool.eq_iff_iff, hiff, okL_iff]
      exact ⟨fun g => ⟨h, fun j hj => g.1 j (Nat.zero_le _) hj⟩, fun g => ⟨fun j _ hj => g.2 j hj, rfl⟩⟩
    subst hq
    exact Ev.congr (fun k => by rw [right_i, Option.bind_some, if_pos ((rightL_iff l).2 h)]; rfl) hr
  · rw [okL_no fun g => h g.1]
    exact Ev_all_k fun k => by rw [right_i, Option.bind_some, if_neg (by rw [rightL_no h]; decide)]
end Go.Proofs.Ytpcjpjjkaplebaa.G1
