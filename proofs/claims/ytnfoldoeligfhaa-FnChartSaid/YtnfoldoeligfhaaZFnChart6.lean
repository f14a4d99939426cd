/- What is put into a drawn chart is found by its number, and turns no other one; no condition. -/
import Derived.Test.YtnfoldoeligfhaaZFnChart5
import Derived.RowKit
import Derived.IntWalk
import Derived.SizedLaws
import Derived.ChangeSlices
import Derived.Test.YtnfoldoeligfhaaRows
import Derived.WalkKit
import Derived.ProofKit
import Derived.OpenShut
import Derived.ShutString
import Derived.ChangeOld
import Derived.Below
namespace Go.Proofs.Ytnfoldoeligfhaa.P
open Go.RowKit Go.Proofs.YtnfoldoeligfhaaW.PrintWords Go.Proofs.YtnfoldoeligfhaaW.PrintLast Go.Proofs.YtnfoldoeligfhaaW.PrintMore
attribute [local go_sem] max2_int min2_int max_two min_two max_three min_three max_four min_four   -- for this text's walks alone
set_option linter.unusedVariables false
set_option linter.unusedSimpArgs false
mutual
def laws_FnChart.l0 : Nat → List Int → List (S44) → List (S44) → Bool → Int → Int → Int → Option (Bool)
 | 0, _, _, _, _, _, _, _ => none
 | k + 1, x0, x3, x5, x6, x9, x584000, x584001 => if x9 < (x3.length : Int) then (if 0 ≤ x9 then ((impl_AccountKind.f k x5 ((rd_T44 x3 x9).f0)).bind fun t595 => (if t595 = ((rd_T44 x3 x9).f1) then (laws_FnChart.l0 k x0 x3 x5 x6 (wrap64 (x9 + 1)) x584000 x584001) else (none))) else (none)) else (if x6 = true then (laws_FnChart.j1 k x0 x3 x5 x6 1 x584000 x584001) else (laws_FnChart.j1 k x0 x3 x5 x6 0 x584000 x584001))
def laws_FnChart.j1 : Nat → List Int → List (S44) → List (S44) → Bool → Int → Int → Int → Option (Bool)
 | 0, _, _, _, _, _, _, _ => none
 | k + 1, x0, x3, x5, x6, x10, x584000, x584001 => if x6 = true then ((impl_AccountKind.f k x5 x584000).bind fun t597 => (if t597 = x584001 then (if (x5.length : Int) = (wrap64 ((x3.length : Int) + x10)) then ((impl_AccountsOk.f k x5).bind fun t598 => (laws_FnChart.j2 k x0 (!t598))) else (none)) else (none))) else (if (x5.length : Int) = (wrap64 ((x3.length : Int) + x10)) then ((impl_AccountsOk.f k x5).bind fun t599 => (laws_FnChart.j2 k x0 (!t599))) else (none))
def laws_FnChart.j2 : Nat → List Int → Bool → Option (Bool)
 | 0, _, _ => none
 | k + 1, x0, x95 => if x95 = true then (none) else ((spec_DrawInstrPut.f k x0).bind fun bt600 => ((impl_InstrPut.f k bt600.1 bt600.2.1 bt600.2.2).bind fun bt606 => ((spec_InstrPut.f k bt600.1 bt600.2.1 bt600.2.2).bind fun bt610 => (if (bt606.2 == bt610.2) = true then (if bt606.2 = true then ((impl_InstrKind.f k bt606.1 bt600.2.1).bind fun t614 => (if t614 = bt600.2.2 then (if (bt606.1.length : Int) = (wrap64 ((bt600.1.length : Int) + 1)) then ((impl_InstrsOk.f k bt606.1).bind fun t615 => (some t615)) else (none)) else (none))) else (some true)) else (none)))))
end
def laws_FnChart.f (k : Nat) (l0 : List Int) : Option (Bool) := (laws_big.f l0).bind fun t577 => (if t577 = true then (some true) else ((spec_DrawAccountPut.f k l0).bind fun bt578 => ((impl_AccountPut.f k bt578.1 bt578.2.1 bt578.2.2).bind fun bt584 => ((spec_AccountPut.f k bt578.1 bt578.2.1 bt578.2.2).bind fun bt588 => (if (bt584.2 != bt588.2) = true then (none) else ((spec_AccountsOk.f k bt578.1).bind fun t592 => (if t592 = true then (laws_FnChart.l0 k l0 bt578.1 bt584.1 bt584.2 0 bt578.2.1 bt578.2.2) else (if (bt584.1.length : Int) = 0 then ((impl_AccountKind.f k bt578.1 bt578.2.1).bind fun t593 => (some (t593 == 0))) else (none)))))))))
def laws_FnChart.T13 : Bool × List (List Nat × List Nat) := (true, [([], []), ([], []), ([], []), ([1, 2], [1, 2]), ([3], [3]), ([4], [4]), ([0, 5], [0, 5]), ([], []), ([], []), ([7, 8], [7, 8]), ([9], [9]), ([10], [10]), ([6, 11], [6, 11])])
def laws_FnChart.B13 : List Nat := [0, 0, 0, 6, 14, 30, 63, 0, 0, 384, 896, 1920, 4095]
theorem laws_FnChart.tab13 : rtab .any (opsOf Try.f9 13) = laws_FnChart.T13 := by kernel_rfl
theorem laws_FnChart.bits13 : waitsOk laws_FnChart.T13.2 laws_FnChart.B13 = true := by kernel_rfl
def laws_FnChart.T18 : Bool × List (List Nat × List Nat) := (true, [([], []), ([0], [0]), ([1], [1]), ([1], [1]), ([3, 1], [1, 3]), ([2, 4, 1, 1], [1, 2, 4]), ([1], [1]), ([6, 1], [1, 6]), ([5, 7, 1], [1, 5, 7]), ([1, 8], [1, 8]), ([9, 5], [9]), ([10], [10]), ([11, 10], [10, 11]), ([10], [10]), ([13, 10], [10, 13]), ([10], [10]), ([14, 15, 10], [10, 14, 15]), ([12, 16, 10], [10, 12, 16]), ([10, 17], [10, 17]), ([18, 10], [18]), ([19], [19]), ([20, 19, 19], [19, 20]), ([21, 19], [19, 21]), ([19, 22], [19, 22])])
def laws_FnChart.B18 : List Nat := [0, 1, 3, 3, 11, 31, 3, 67, 255, 511, 1023, 2047, 4095, 2047, 10239, 2047, 59391, 131071, 262143, 524287, 1048575, 2097151, 4194303, 8388607]
theorem laws_FnChart.tab18 : rtab .any (opsOf Try.f9 18) = laws_FnChart.T18 := by kernel_rfl
theorem laws_FnChart.bits18 : waitsOk laws_FnChart.T18.2 laws_FnChart.B18 = true := by kernel_rfl
def laws_FnChart.T23 : Bool × List (List Nat × List Nat) := (true, [([], []), ([], []), ([0, 1], [0, 1]), ([2], [2]), ([3], [3]), ([4, 3], [3, 4]), ([5, 3, 3], [3, 5]), ([6], [6]), ([6], [6]), ([8, 6], [6, 8]), ([7, 9, 6, 6], [6, 7, 9]), ([6], [6]), ([11, 6], [6, 11]), ([10, 12, 6], [6, 10, 12]), ([13, 10, 6], [6, 13]), ([14], [14]), ([15, 14], [14, 15]), ([14], [14]), ([17, 14], [14, 17]), ([18, 14], [14, 18]), ([16, 19, 14], [14, 16, 19]), ([14, 20, 6], [6, 14, 20]), ([21, 14, 6], [6, 21]), ([22], [22]), ([23, 22, 22], [22, 23]), ([22, 24, 6], [6, 22, 24]), ([6, 25, 3], [3, 6, 25]), ([3, 26], [3, 26]), ([27, 24, 0, 1, 2, 3, 4, 5, 6, 7, 8, 9, 10, 11, 12, 13, 14, 15, 16, 17, 18, 19, 20, 21, 22, 23, 24, 25, 26, 27], [27])])
def laws_FnChart.B23 : List Nat := [0, 0, 3, 7, 15, 31, 63, 127, 127, 383, 1023, 127, 2175, 8191, 16383, 32767, 65535, 32767, 163839, 425983, 1048575, 2097151, 4194303, 8388607, 16777215, 33554431, 67108863, 134217727, 268435455]
theorem laws_FnChart.tab23 : rtab .any (opsOf Try.f9 23) = laws_FnChart.T23 := by kernel_rfl
theorem laws_FnChart.bits23 : waitsOk laws_FnChart.T23.2 laws_FnChart.B23 = true := by kernel_rfl
set_option maxHeartbeats 8000000 in
set_option maxRecDepth 100000 in
theorem laws_FnChart.calls (k : Nat) (A0 : Option Addr) (c0 : Nat) (l0 : List Int) (r : Bool) (w : World) (hr0 : Kd.C (Kd.int .u8) w A0 l0.length l0) (hc0 : l0.length ≤ c0) (h : laws_FnChart.f k l0 = some r) :
 Calls Try.prog 9 #[.slice A0 l0.length c0] w fun e w' => e = .returned (.bool r) ∧ Below w.heap.size w w' := by
 have hu44 := Try.underlying44
 have hu50 := Try.underlying50
 have HR0 := Aside0.mk hr0
 have HC0 := Aside0.mk hc0
 clear hr0 hc0
 have HB := Aside0.mk (Below.refl w.heap.size w)
 have H : ((laws_big.f l0).bind fun t577 => (if t577 = true then (some true) else ((spec_DrawAccountPut.f k l0).bind fun bt578 => ((impl_AccountPut.f k bt578.1 bt578.2.1 bt578.2.2).bind fun bt584 => ((spec_AccountPut.f k bt578.1 bt578.2.1 bt578.2.2).bind fun bt588 => (if (bt584.2 != bt588.2) = true then (none) else ((spec_AccountsOk.f k bt578.1).bind fun t592 => (if t592 = true then (laws_FnChart.l0 k l0 bt578.1 bt584.1 bt584.2 0 bt578.2.1 bt578.2.2) else (if (bt584.1.length : Int) = 0 then ((impl_AccountKind.f k bt578.1 bt578.2.1).bind fun t593 => (some (t593 == 0))) else (none)))))))))) = some r := h
 clear h
 replace H := Option.bind_eq_some_iff.mp H
 obtain ⟨t577, A20, H⟩ := H
 replace H : (if t577 = true then (some true) else ((spec_DrawAccountPut.f k l0).bind fun bt578 => ((impl_AccountPut.f k bt578.1 bt578.2.1 bt578.2.2).bind fun bt584 => ((spec_AccountPut.f k bt578.1 bt578.2.1 bt578.2.2).bind fun bt588 => (if (bt584.2 != bt588.2) = true then (none) else ((spec_AccountsOk.f k bt578.1).bind fun t592 => (if t592 = true then (laws_FnChart.l0 k l0 bt578.1 bt584.1 bt584.2 0 bt578.2.1 bt578.2.2) else (if (bt584.1.length : Int) = 0 then ((impl_AccountKind.f k bt578.1 bt578.2.1).bind fun t593 => (some (t593 == 0))) else (none))))))))) = some r := H
 have A2 := Aside0.mk A20
 clear A20
 by_cases c3 : t577 = true
 ·
  subst c3
  have H1 : (some true) = some r := by rw [if_pos rfl] at H; exact H
  clear H
  have H := H1
  clear H1
  obtain rfl := Option.some.inj H
  go_enter Try.func9, Try.ntmps9
  go_wp2_with (first | ((with_reducible refine gate_callee (f := 34) rfl ?_); refine goesL_ (some 18) rfl rfl Try.func34 (by kernel_rfl) rfl #[.slice A0 l0.length c0] rfl (by (try simp only [List.map_toArray, List.map_cons, List.map_nil]); first | done | rfl | (simp only [List.length_drop, List.length_take]; rfl)) ?_; (with_reducible refine (laws_big.calls _ _ l0 true _ ?side1 ?side2 A2.out).mono ?_); (case side1 => repeat (first | exact HR0.out | (with_reducible refine Kd.C_alloc ?_ _) | (with_reducible refine Kd.C_drewN ?_ _) | (with_reducible refine Kd.C_drew ?_))); (case side2 => exact HC0.out); rintro e w' ⟨rfl, ⟨nd, rfl⟩⟩; refine ⟨_, rfl, ?_⟩))
  go_ret
  exact ⟨by first | rfl | (simp [errW_none, errW_some] <;> rfl) | (simp [*, errW_none, errW_some] <;> rfl), by repeat (first | (with_reducible first | exact HB.out | apply below_alloc | apply pw_below_drewN | apply below_drew1) | exact HB.out)⟩
 ·
  replace c3 := Bool.eq_false_iff.mpr c3
  subst c3
  have H1 : ((spec_DrawAccountPut.f k l0).bind fun bt578 => ((impl_AccountPut.f k bt578.1 bt578.2.1 bt578.2.2).bind fun bt584 => ((spec_AccountPut.f k bt578.1 bt578.2.1 bt578.2.2).bind fun bt588 => (if (bt584.2 != bt588.2) = true then (none) else ((spec_AccountsOk.f k bt578.1).bind fun t592 => (if t592 = true then (laws_FnChart.l0 k l0 bt578.1 bt584.1 bt584.2 0 bt578.2.1 bt578.2.2) else (if (bt584.1.length : Int) = 0 then ((impl_AccountKind.f k bt578.1 bt578.2.1).bind fun t593 => (some (t593 == 0))) else (none)))))))) = some r := by rw [if_neg (show ¬ (false = true) by decide)] at H; exact H
  clear H
  have H := H1
  clear H1
  replace H := Option.bind_eq_some_iff.mp H
  obtain ⟨⟨t578, t581, t582⟩, A40, H⟩ := H
  replace H : ((impl_AccountPut.f k t578 t581 t582).bind fun bt584 => ((spec_AccountPut.f k t578 t581 t582).bind fun bt588 => (if (bt584.2 != bt588.2) = true then (none) else ((spec_AccountsOk.f k t578).bind fun t592 => (if t592 = true then (laws_FnChart.l0 k l0 t578 bt584.1 bt584.2 0 t581 t582) else (if (bt584.1.length : Int) = 0 then ((impl_AccountKind.f k t578 t581).bind fun t593 => (some (t593 == 0))) else (none))))))) = some r := H
  have A4 := Aside0.mk A40
  clear A40
  replace H := Option.bind_eq_some_iff.mp H
  obtain ⟨⟨t584, t587⟩, A50, H⟩ := H
  replace H : ((spec_AccountPut.f k t578 t581 t582).bind fun bt588 => (if (t587 != bt588.2) = true then (none) else ((spec_AccountsOk.f k t578).bind fun t592 => (if t592 = true then (laws_FnChart.l0 k l0 t578 t584 t587 0 t581 t582) else (if (t584.length : Int) = 0 then ((impl_AccountKind.f k t578 t581).bind fun t593 => (some (t593 == 0))) else (none)))))) = some r := H
  have A5 := Aside0.mk A50
  clear A50
  replace H := Option.bind_eq_some_iff.mp H
  obtain ⟨⟨t588, t591⟩, A60, H⟩ := H
  replace H : (if (t587 != t591) = true then (none) else ((spec_AccountsOk.f k t578).bind fun t592 => (if t592 = true then (laws_FnChart.l0 k l0 t578 t584 t587 0 t581 t582) else (if (t584.length : Int) = 0 then ((impl_AccountKind.f k t578 t581).bind fun t593 => (some (t593 == 0))) else (none))))) = some r := H
  have A6 := Aside0.mk A60
  clear A60
  by_cases c7 : (t587 != t591) = true
  ·
   rw [if_pos c7] at H
   exact absurd H (by simp)
  ·
   rw [if_neg c7] at H
   have c7b0 : (t587 != t591) = false := by simpa using c7
   (try (have c7b1 : decide (t587 = t591) = true := by simpa using c7))
   (try (have c7b2 : (t587 == t591) = true := by simpa using c7))
   clear c7
   replace H := Option.bind_eq_some_iff.mp H
   obtain ⟨t592, A80, H⟩ := H
   replace H : (if t592 = true then (laws_FnChart.l0 k l0 t578 t584 t587 0 t581 t582) else (if (t584.length : Int) = 0 then ((impl_AccountKind.f k t578 t581).bind fun t593 => (some (t593 == 0))) else (none))) = some r := H
   have A8 := Aside0.mk A80
   clear A80
   by_cases c9 : t592 = true
   ·
    subst c9
    have H1 : (laws_FnChart.l0 k l0 t578 t584 t587 0 t581 t582) = some r := by rw [if_pos rfl] at H; exact H
    clear H
    have H := H1
    clear H1
    have H' := Aside0.mk H
    clear H
    go_enter Try.func9, Try.ntmps9
    go_wp2_with (first | ((with_reducible refine gate_callee (f := 34) rfl ?_); refine goesL_ (some 18) rfl rfl Try.func34 (by kernel_rfl) rfl #[.slice A0 l0.length c0] rfl (by (try simp only [List.map_toArray, List.map_cons, List.map_nil]); first | done | rfl | (simp only [List.length_drop, List.length_take]; rfl)) ?_; (with_reducible refine (laws_big.calls _ _ l0 false _ ?side1 ?side2 A2.out).mono ?_); (case side1 => repeat (first | exact HR0.out | (with_reducible refine Kd.C_alloc ?_ _) | (with_reducible refine Kd.C_drewN ?_ _) | (with_reducible refine Kd.C_drew ?_))); (case side2 => exact HC0.out); rintro e w' ⟨rfl, ⟨nd, rfl⟩⟩; refine ⟨_, rfl, ?_⟩) | ((with_reducible refine gate_callee (f := 35) rfl ?_); refine goesL_ (some 21) rfl rfl Try.func35 (by kernel_rfl) rfl #[.slice A0 l0.length c0] rfl (by (try simp only [List.map_toArray, List.map_cons, List.map_nil]); first | done | rfl | (simp only [List.length_drop, List.length_take]; rfl)) ?_; (with_reducible refine (spec_DrawAccountPut.calls k _ _ l0 t578 t581 t582 _ ?side1 ?side2 A4.out).mono ?_); (case side1 => repeat (first | exact HR0.out | (with_reducible refine Kd.C_alloc ?_ _) | (with_reducible refine Kd.C_drewN ?_ _) | (with_reducible refine Kd.C_drew ?_))); (case side2 => exact HC0.out); rintro e w10 ⟨v579, rfl, ho0, hb⟩; refine ⟨_, rfl, ?_⟩; have n0_ := Aside0.mk (Kd.R_lower ho0 (below_size (by repeat (first | (with_reducible first | exact HB.out | apply below_alloc | apply pw_below_drewN | apply below_drew1) | exact HB.out)))); have n1_ := Aside0.mk (below_step (by repeat (first | (with_reducible first | exact HB.out | apply below_alloc | apply pw_below_drewN | apply below_drew1) | exact HB.out)) hb); clear HB; have HO580 := n0_; have HB := n1_; clear n0_ n1_; (try clear hb); (try clear hb2); (try clear hk); (try clear hi); (try clear ho0)) | ((with_reducible refine gate_dst (N := 4) rfl ?_); (try (refine gate_guard (by rfl) ?_; dsimp only)); refine box_event ?hg (N := 4) ?hd (cs := #[.int .i64 0, .int .i64 0]) (t := 44) ?hr ?_; (case hd => rfl); (case hg => rfl); (case hr => first | (go_simp; done) | (go_simp; rfl)); intro gb583 hg w11 hbox hb; have n0_ := Aside0.mk (Kd.R_below (Kd.R_elderB (by (with_reducible repeat (first | apply Kd.R_alloc | apply Kd.R_drewN | apply Kd.R_drew)); exact HO580.out) gb583 (Nat.le_of_eq hg.symm)) hb); have n1_ := Aside0.mk (below_step (by repeat (first | (with_reducible first | exact HB.out | apply below_alloc | apply pw_below_drewN | apply below_drew1) | exact HB.out)) hb); have n2_ := Aside0.mk (hbox); have n3_ := Aside0.mk ((by rw [hg]; exact (below_size (by repeat (first | (with_reducible first | exact HB.out | apply below_alloc | apply pw_below_drewN | apply below_drew1) | exact HB.out))) : w.heap.size ≤ gb583)); have n4_ := Aside0.mk ((by rw [hg]; exact (below_size (by repeat (first | (with_reducible first | exact HB.out | apply below_alloc | apply pw_below_drewN | apply below_drew1) | exact HB.out))) : w.heap.size ≤ gb583)); clear HO580; clear HB; have HO580 := n0_; have HB := n1_; have BK583 := n2_; have GW583 := n3_; have GE583 := n4_; clear n0_ n1_ n2_ n3_ n4_; clear hb hbox hg; have hcz12_0 : w11.cell? ⟨gb583, 0, none⟩ = some (.int .i64 0) := (blk_cell BK583.out 0).trans rfl; have hcz12_1 : w11.cell? ⟨gb583, 1, none⟩ = some (.int .i64 0) := (blk_cell BK583.out 1).trans rfl; have hfz12_0 := blk_frozen BK583.out 0; have hfz12_1 := blk_frozen BK583.out 1; obtain ⟨Ao13, co13, eo13⟩ := Kd.R_slice HO580.out; subst eo13) | ((with_reducible refine gate_callee (f := 26) rfl ?_); refine goesL_ (some 27) rfl rfl Try.func26 (by kernel_rfl) rfl #[.slice Ao13 t578.length co13, .agg #[.int .i64 t581, .int .i64 t582]] rfl (by (try simp only [List.map_toArray, List.map_cons, List.map_nil]); first | done | rfl | (simp only [List.length_drop, List.length_take]; rfl)) ?_; (with_reducible refine (impl_AccountPut.calls k _ _ t578 t581 t582 t584 t587 _ ?side1 ?side2 A5.out).mono ?_); (case side1 => refine (Kd.R_reads' (e := 44) (base := w.heap.size) (ok := fun k_ => (True ∧ k_ ≠ gb583)) (n := t578.length) (c := co13) ?_).2.2; exact (by (with_reducible repeat (first | apply Kd.R_alloc | apply Kd.R_drewN | apply Kd.R_drew)); exact (Kd.R_mono (Kd.R_far (p := ⟨gb583, 1, none⟩) (Kd.R_far (p := ⟨gb583, 0, none⟩) (Kd.R_mono HO580.out (fun k_ hk => (⟨hk, hk.2⟩ : _ ∧ k_ ≠ gb583))) (fun _ hk => hk.2) (.int .i64 t581)) (fun _ hk => hk.2) (.int .i64 t582)) (fun _ h_ => h_.1)))); (case side2 => exact (Kd.R_reads' HO580.out).2.1); rintro e w14 ⟨v585, rfl, ho0, hb⟩; refine ⟨_, rfl, ?_⟩; have n0_ := Aside0.mk (Kd.R_elder' (by (with_reducible repeat (first | apply Kd.R_alloc | apply Kd.R_drewN | apply Kd.R_drew)); exact (Kd.R_mono (Kd.R_far (p := ⟨gb583, 1, none⟩) (Kd.R_far (p := ⟨gb583, 0, none⟩) (Kd.R_mono HO580.out (fun k_ hk => (⟨hk, hk.2⟩ : _ ∧ k_ ≠ gb583))) (fun _ hk => hk.2) (.int .i64 t581)) (fun _ hk => hk.2) (.int .i64 t582)) (fun _ h_ => h_.1))) (Kd.R_base ho0) hb); have n1_ := Aside0.mk (Kd.R_lower (Kd.R_newB (Kd.R_new' ho0 (Kd.R_lt (by (with_reducible repeat (first | apply Kd.R_alloc | apply Kd.R_drewN | apply Kd.R_drew)); exact (Kd.R_mono (Kd.R_far (p := ⟨gb583, 1, none⟩) (Kd.R_far (p := ⟨gb583, 0, none⟩) (Kd.R_mono HO580.out (fun k_ hk => (⟨hk, hk.2⟩ : _ ∧ k_ ≠ gb583))) (fun _ hk => hk.2) (.int .i64 t581)) (fun _ hk => hk.2) (.int .i64 t582)) (fun _ h_ => h_.1))))) (g := gb583) (o := .cells #[.int .i64 t581, .int .i64 t582] 44 (0, 0)) (by (with_reducible repeat (first | refine blk_drewN ?_ _ | refine blk_drew ?_ | refine blk_alloc ?_ _)); refine blk_put (cs := #[.int .i64 t581, .int .i64 0]) ?_ 1 _ rfl; (with_reducible repeat (first | refine blk_drewN ?_ _ | refine blk_drew ?_ | refine blk_alloc ?_ _)); refine blk_put (cs := #[.int .i64 0, .int .i64 0]) ?_ 0 _ rfl; (with_reducible repeat (first | refine blk_drewN ?_ _ | refine blk_drew ?_ | refine blk_alloc ?_ _)); exact BK583.out)) (below_size (by repeat (first | (with_reducible first | exact HB.out | apply below_alloc | apply pw_below_drewN | apply below_drew1 | refine below_set ?_ GE583.out) | exact HB.out)))); have n2_ := Aside0.mk (blk_below (g := gb583) (o := .cells #[.int .i64 t581, .int .i64 t582] 44 (0, 0)) (by (with_reducible repeat (first | refine blk_drewN ?_ _ | refine blk_drew ?_ | refine blk_alloc ?_ _)); refine blk_put (cs := #[.int .i64 t581, .int .i64 0]) ?_ 1 _ rfl; (with_reducible repeat (first | refine blk_drewN ?_ _ | refine blk_drew ?_ | refine blk_alloc ?_ _)); refine blk_put (cs := #[.int .i64 0, .int .i64 0]) ?_ 0 _ rfl; (with_reducible repeat (first | refine blk_drewN ?_ _ | refine blk_drew ?_ | refine blk_alloc ?_ _)); exact BK583.out) hb); have n3_ := Aside0.mk (below_step (by repeat (first | (with_reducible first | exact HB.out | apply below_alloc | apply pw_below_drewN | apply below_drew1 | refine below_set ?_ GE583.out) | exact HB.out)) hb); clear HO580; clear BK583; clear HB; have HO580 := n0_; have HO586 := n1_; have BK583 := n2_; have HB := n3_; clear n0_ n1_ n2_ n3_; (try clear hb); (try clear hb2); (try clear hk); (try clear hi); (try clear ho0); have hcz15_0 : w14.cell? ⟨gb583, 0, none⟩ = some (.int .i64 t581) := (blk_cell BK583.out 0).trans rfl; have hcz15_1 : w14.cell? ⟨gb583, 1, none⟩ = some (.int .i64 t582) := (blk_cell BK583.out 1).trans rfl; have hfz15_0 := blk_frozen BK583.out 0; have hfz15_1 := blk_frozen BK583.out 1) | ((with_reducible refine gate_callee (f := 24) rfl ?_); refine goesL_ (some 33) rfl rfl Try.func24 (by kernel_rfl) rfl #[.slice Ao13 t578.length co13, .agg #[.int .i64 t581, .int .i64 t582]] rfl (by (try simp only [List.map_toArray, List.map_cons, List.map_nil]); first | done | rfl | (simp only [List.length_drop, List.length_take]; rfl)) ?_; (with_reducible refine (spec_AccountPut.calls k _ _ t578 t581 t582 t588 t591 _ ?side1 ?side2 A6.out).mono ?_); (case side1 => repeat (first | exact (Kd.R_reads' HO580.out).2.2 | (with_reducible refine Kd.C_alloc ?_ _) | (with_reducible refine Kd.C_drewN ?_ _) | (with_reducible refine Kd.C_drew ?_))); (case side2 => exact (Kd.R_reads' HO580.out).2.1); rintro e w16 ⟨v589, rfl, ho0, hb⟩; refine ⟨_, rfl, ?_⟩; have n0_ := Aside0.mk (Kd.R_elder' (by (with_reducible repeat (first | apply Kd.R_alloc | apply Kd.R_drewN | apply Kd.R_drew)); exact HO580.out) (Kd.R_base ho0) hb); have n1_ := Aside0.mk (Kd.R_elder' (by (with_reducible repeat (first | apply Kd.R_alloc | apply Kd.R_drewN | apply Kd.R_drew)); exact HO586.out) (Kd.R_base ho0) hb); have n2_ := Aside0.mk (Kd.R_lower (Kd.R_newB (Kd.R_new' (Kd.R_new' ho0 (Kd.R_lt (by (with_reducible repeat (first | apply Kd.R_alloc | apply Kd.R_drewN | apply Kd.R_drew)); exact HO580.out))) (Kd.R_lt (by (with_reducible repeat (first | apply Kd.R_alloc | apply Kd.R_drewN | apply Kd.R_drew)); exact HO586.out))) (g := gb583) (o := .cells #[.int .i64 t581, .int .i64 t582] 44 (0, 0)) (by (with_reducible repeat (first | refine blk_drewN ?_ _ | refine blk_drew ?_ | refine blk_alloc ?_ _)); exact BK583.out)) (below_size (by repeat (first | (with_reducible first | exact HB.out | apply below_alloc | apply pw_below_drewN | apply below_drew1 | refine below_set ?_ GE583.out) | exact HB.out)))); have n3_ := Aside0.mk (blk_below (g := gb583) (o := .cells #[.int .i64 t581, .int .i64 t582] 44 (0, 0)) (by (with_reducible repeat (first | refine blk_drewN ?_ _ | refine blk_drew ?_ | refine blk_alloc ?_ _)); exact BK583.out) hb); have n4_ := Aside0.mk (below_step (by repeat (first | (with_reducible first | exact HB.out | apply below_alloc | apply pw_below_drewN | apply below_drew1 | refine below_set ?_ GE583.out) | exact HB.out)) hb); clear HO580; clear HO586; clear BK583; clear HB; have HO580 := n0_; have HO586 := n1_; have HO590 := n2_; have BK583 := n3_; have HB := n4_; clear n0_ n1_ n2_ n3_ n4_; (try clear hb); (try clear hb2); (try clear hk); (try clear hi); (try clear ho0)) | ((with_reducible refine gate_callee (f := 11) rfl ?_); refine goesL_ (some 40) rfl rfl Try.func11 (by kernel_rfl) rfl #[.slice Ao13 t578.length co13] rfl (by (try simp only [List.map_toArray, List.map_cons, List.map_nil]); first | done | rfl | (simp only [List.length_drop, List.length_take]; rfl)) ?_; (with_reducible refine (spec_AccountsOk.calls k _ _ t578 true _ ?side1 ?side2 A8.out).mono ?_); (case side1 => repeat (first | exact (Kd.R_reads' HO580.out).2.2 | (with_reducible refine Kd.C_alloc ?_ _) | (with_reducible refine Kd.C_drewN ?_ _) | (with_reducible refine Kd.C_drew ?_))); (case side2 => exact (Kd.R_reads' HO580.out).2.1); rintro e w17 ⟨rfl, hb⟩; refine ⟨_, rfl, ?_⟩; have n0_ := Aside0.mk (Kd.R_below (by (with_reducible repeat (first | apply Kd.R_alloc | apply Kd.R_drewN | apply Kd.R_drew)); exact HO580.out) hb); have n1_ := Aside0.mk (Kd.R_below (by (with_reducible repeat (first | apply Kd.R_alloc | apply Kd.R_drewN | apply Kd.R_drew)); exact HO586.out) hb); have n2_ := Aside0.mk (Kd.R_below (by (with_reducible repeat (first | apply Kd.R_alloc | apply Kd.R_drewN | apply Kd.R_drew)); exact HO590.out) hb); have n3_ := Aside0.mk (blk_below (g := gb583) (o := .cells #[.int .i64 t581, .int .i64 t582] 44 (0, 0)) (by (with_reducible repeat (first | refine blk_drewN ?_ _ | refine blk_drew ?_ | refine blk_alloc ?_ _)); exact BK583.out) hb); have n4_ := Aside0.mk (below_step (by repeat (first | (with_reducible first | exact HB.out | apply below_alloc | apply pw_below_drewN | apply below_drew1 | refine below_set ?_ GE583.out) | exact HB.out)) hb); clear HO580; clear HO586; clear HO590; clear BK583; clear HB; have HO580 := n0_; have HO586 := n1_; have HO590 := n2_; have BK583 := n3_; have HB := n4_; clear n0_ n1_ n2_ n3_ n4_; (try clear hb); (try clear hb2); (try clear hk); (try clear hi)))
    go_loopg [9] k (fun kq v9 w' => ∃ (x9_1 : Int), v9 = .int .i64 x9_1 ∧ Aside0 (laws_FnChart.l0 kq l0 t578 t584 t587 x9_1 t581 t582 = some r) ∧ Aside0 (kq ≤ k) ∧ Aside0 (Kd.R k44 44 w' w.heap.size (fun k_ => some k_ ≠ (v585 : Value).ownBlock ∧ k_ ≠ gb583) (.slice Ao13 t578.length co13) t578) ∧ Aside0 (Kd.R k44 44 w' w.heap.size (fun k_ => some k_ ≠ ((.slice Ao13 t578.length co13) : Value).ownBlock ∧ k_ ≠ gb583) v585 t584) ∧ Aside0 (w'.heap[gb583]? = some (.cells #[.int .i64 t581, .int .i64 t582] 44 (0, 0))) ∧ Aside0 (Below w.heap.size w w'))
    case atStart => exact ⟨(0), (by first | rfl | (simp; done) | (simp [*]; done)), H', ⟨Nat.le_refl _⟩, ⟨by (with_reducible repeat (first | apply Kd.R_alloc | apply Kd.R_drewN | apply Kd.R_drew)); exact Kd.R_mono HO580.out (fun _ hk => ⟨hk.1.2, hk.1.1.2⟩)⟩, ⟨by (with_reducible repeat (first | apply Kd.R_alloc | apply Kd.R_drewN | apply Kd.R_drew)); exact Kd.R_mono HO586.out (fun _ hk => ⟨hk.1.1.2, hk.1.2⟩)⟩, ⟨by (with_reducible repeat (first | refine blk_drewN ?_ _ | refine blk_drew ?_ | refine blk_alloc ?_ _)); exact BK583.out⟩, ⟨by repeat (first | (with_reducible first | exact HB.out | apply below_alloc | apply pw_below_drewN | apply below_drew1 | refine below_set ?_ GE583.out) | exact HB.out)⟩⟩
    case round =>
     clear H'
     try clear c1
     try clear c2
     try clear p2
     try clear c3
     try clear c7
     try clear c7b0
     try clear c7b1
     try clear c7b2
     try clear c9
     try clear c11
     try clear hcz12_0
     try clear hcz12_1
     try clear hcz15_0
     try clear hcz15_1
     try clear hfz12_0
     try clear hfz12_1
     try clear hfz15_0
     try clear hfz15_1
     obtain ⟨x9_1, rfl, HA, HK1, HO_3, HO_5, BK583, HB⟩ := hrel
     cases gk with
     | zero => exact absurd HA.out (by simp [laws_FnChart.l0])
     | succ k1 =>
      have H := HA.out
      clear HA
      simp only [laws_FnChart.l0] at H
      by_cases c18 : x9_1 < (t578.length : Int)
      ·
       rw [if_pos c18] at H
       have c18b0 : decide (x9_1 < (t578.length : Int)) = true := decide_eq_true c18
       clear c18
       by_cases c19 : 0 ≤ x9_1
       ·
        rw [if_pos c19] at H
        have c19b0 : decide (0 ≤ x9_1) = true := decide_eq_true c19
        clear c19
        replace H := Option.bind_eq_some_iff.mp H
        obtain ⟨t595, A200, H⟩ := H
        replace H : (if t595 = ((rd_T44 t578 x9_1).f1) then (laws_FnChart.l0 k1 l0 t578 t584 t587 (wrap64 (x9_1 + 1)) t581 t582) else (none)) = some r := H
        have A20 := Aside0.mk A200
        clear A200
        by_cases c21 : t595 = ((rd_T44 t578 x9_1).f1)
        ·
         rw [if_pos c21] at H
         have c21b0 : (t595 == ((rd_T44 t578 x9_1).f1)) = true := beq_iff_eq.mpr c21
         have c21b1 : (t595 != ((rd_T44 t578 x9_1).f1)) = false := bne_eq_false_iff_eq.mpr c21
         clear c21
         have H' := Aside0.mk H
         clear H
         try go_wp2
         have n0_ := Aside0.mk (Kd.R_drew HO_3.out)
         have n1_ := Aside0.mk (Kd.R_drew HO_5.out)
         have n2_ := Aside0.mk (blk_drew BK583.out)
         have n3_ := Aside0.mk (below_drew1 HB.out)
         clear HO_3
         clear HO_5
         clear BK583
         clear HB
         have HO_3 := n0_
         have HO_5 := n1_
         have BK583 := n2_
         have HB := n3_
         clear n0_ n1_ n2_ n3_
         have p594 : 0 ≤ (x9_1 : Int) := of_decide_eq_true (by first | (with_reducible assumption) | assumption)
         have q594 : x9_1 < (t578.length : Int) := of_decide_eq_true (by first | (with_reducible assumption) | assumption)
         obtain ⟨ad594, e594, hx594_0, hx594_1⟩ := at_T44 (Kd.R_reads' HO_3.out).2.2 x9_1 p594 q594
         cases e594
         replace p594 := eq_true p594
         replace q594 := eq_true q594
         have p596 : 0 ≤ (x9_1 : Int) := of_decide_eq_true (by first | (with_reducible assumption) | assumption)
         have q596 : x9_1 < (t578.length : Int) := of_decide_eq_true (by first | (with_reducible assumption) | assumption)
         obtain ⟨ad596, e596, hx596_0, hx596_1⟩ := at_T44 (Kd.R_reads' HO_3.out).2.2 x9_1 p596 q596
         obtain rfl : ad594 = ad596 := (by injection e596)
         replace p596 := eq_true p596
         replace q596 := eq_true q596
         obtain ⟨Ao23, co23, eo23⟩ := Kd.R_slice HO_5.out
         (first | subst eo23 | (injection eo23 with f1_ f2_ f3_; have f4_ := f1_.symm; have f5_ := f3_.symm; clear f1_ f2_ f3_; subst f4_; subst f5_))
         refine start_ (n := 13) (S := fun w' => w'.cell? (ad594.add ((x9_1).toNat * 2)) = some (.int .i64 ((rd_T44 t578 x9_1).f0)) ∧ w'.cell? ⟨(ad594.add ((x9_1).toNat * 2)).block, (ad594.add ((x9_1).toNat * 2)).off + 1, none⟩ = some (.int .i64 ((rd_T44 t578 x9_1).f1)) ∧ w'.cell? (ad594.add ((x9_1).toNat * 2)) = some (.int .i64 ((rd_T44 t578 x9_1).f0)) ∧ w'.cell? ⟨(ad594.add ((x9_1).toNat * 2)).block, (ad594.add ((x9_1).toNat * 2)).off + 1, none⟩ = some (.int .i64 ((rd_T44 t578 x9_1).f1))) (ds := []) #[false, false, false, false, false, false, false, false, false, false, false, false, false] (by kernel_rfl) rfl rfl ⟨hx594_0, hx594_1, hx596_0, hx596_1⟩ (fun hHeld => ?_); refine with_tabW laws_FnChart.tab13 laws_FnChart.bits13 (fun HT_ HW_ => ?_)
         generalize wr.drew = w22 at HO_3 HO_5 BK583 HB hx594_0 hx594_1 hx596_0 hx596_1 hHeld ⊢
         refine pure_ (i := 0) (N := some 58) (v := ?_) (a' := ?_) #[true, false, false, false, false, false, false, false, false, false, false, false, false] rfl rfl (any_of HT_.out (by kernel_rfl)) (fun _ _ _ h => h) (Or.inl ⟨by rfl, ?_⟩) ?_ ?_
         rotate_left
         ·
          intro w'
          go_simp
          with_reducible rfl
         rotate_left
         ·
          simp only [Act.put, List.setIfInBounds_toArray, List.set_cons_zero, List.set_cons_succ, i64_w, i32_w]
          rfl
         refine pure_ (i := 1) (N := some 59) (v := ?_) (a' := ?_) #[true, true, false, false, false, false, false, false, false, false, false, false, false] rfl rfl (any_of HT_.out (by kernel_rfl)) (fun _ _ _ h => h) (Or.inl ⟨by rfl, ?_⟩) ?_ ?_
         rotate_left
         ·
          intro w'
          go_simp
          with_reducible rfl
         rotate_left
         ·
          simp only [Act.put, List.setIfInBounds_toArray, List.set_cons_zero, List.set_cons_succ, i64_w, i32_w]
          rfl
         refine pure_ (i := 2) (N := some 60) (v := ?_) (a' := ?_) #[true, true, true, false, false, false, false, false, false, false, false, false, false] rfl rfl (any_of HT_.out (by kernel_rfl)) (fun _ _ _ h => h) (Or.inl ⟨by rfl, ?_⟩) ?_ ?_
         rotate_left
         ·
          intro w'
          go_simp
          with_reducible rfl
         rotate_left
         ·
          simp only [Act.put, List.setIfInBounds_toArray, List.set_cons_zero, List.set_cons_succ, i64_w, i32_w]
          rfl
         refine pure_ (i := 3) (N := some 61) (v := ?_) (a' := ?_) #[true, true, true, true, false, false, false, false, false, false, false, false, false] rfl rfl (any_of HT_.out (by kernel_rfl)) (fun _ _ _ h => h) (Or.inl ⟨by rfl, ?_⟩) ?_ ?_
         rotate_left
         ·
          intro w'
          go_simp
          with_reducible rfl
         rotate_left
         ·
          simp only [Act.put, List.setIfInBounds_toArray, List.set_cons_zero, List.set_cons_succ, i64_w, i32_w]
          rfl
         refine pure_ (i := 4) (N := some 62) (v := ?_) (a' := ?_) #[true, true, true, true, true, false, false, false, false, false, false, false, false] rfl rfl (any_of HT_.out (by kernel_rfl)) (fun _ _ _ h => h) (Or.inl ⟨by rfl, ?_⟩) ?_ ?_
         rotate_left
         ·
          intro w'
          go_simp
          with_reducible rfl
         rotate_left
         ·
          simp only [Act.put, List.setIfInBounds_toArray, List.set_cons_zero, List.set_cons_succ, i64_w, i32_w]
          rfl
         refine pure_ (i := 7) (N := some 65) (v := ?_) (a' := ?_) #[true, true, true, true, true, false, false, true, false, false, false, false, false] rfl rfl (any_of HT_.out (by kernel_rfl)) (fun _ _ _ h => h) (Or.inl ⟨by rfl, ?_⟩) ?_ ?_
         rotate_left
         ·
          intro w'
          go_simp
          with_reducible rfl
         rotate_left
         ·
          simp only [Act.put, List.setIfInBounds_toArray, List.set_cons_zero, List.set_cons_succ, i64_w, i32_w]
          rfl
         refine pure_ (i := 8) (N := some 66) (v := ?_) (a' := ?_) #[true, true, true, true, true, false, false, true, true, false, false, false, false] rfl rfl (any_of HT_.out (by kernel_rfl)) (fun _ _ _ h => h) (Or.inl ⟨by rfl, ?_⟩) ?_ ?_
         rotate_left
         ·
          intro w'
          go_simp
          with_reducible rfl
         rotate_left
         ·
          simp only [Act.put, List.setIfInBounds_toArray, List.set_cons_zero, List.set_cons_succ, i64_w, i32_w]
          rfl
         refine pure_ (i := 9) (N := some 67) (v := ?_) (a' := ?_) #[true, true, true, true, true, false, false, true, true, true, false, false, false] rfl rfl (any_of HT_.out (by kernel_rfl)) (fun _ _ _ h => h) (Or.inl ⟨by rfl, ?_⟩) ?_ ?_
         rotate_left
         ·
          intro w'
          go_simp
          with_reducible rfl
         rotate_left
         ·
          simp only [Act.put, List.setIfInBounds_toArray, List.set_cons_zero, List.set_cons_succ, i64_w, i32_w]
          rfl
         refine pure_ (i := 10) (N := some 68) (v := ?_) (a' := ?_) #[true, true, true, true, true, false, false, true, true, true, true, false, false] rfl rfl (any_of HT_.out (by kernel_rfl)) (fun _ _ _ h => h) (Or.inl ⟨by rfl, ?_⟩) ?_ ?_
         rotate_left
         ·
          intro w'
          go_simp
          with_reducible rfl
         rotate_left
         ·
          simp only [Act.put, List.setIfInBounds_toArray, List.set_cons_zero, List.set_cons_succ, i64_w, i32_w]
          rfl
         refine take_ (i := 5) (N := some 63) (v := ?_) (a' := ?_) #[true, true, true, true, true, true, false, true, true, true, true, false, false] rfl rfl (take_ofW HT_.out HW_.out (by kernel_rfl)) (fun _ _ _ h => h) (Or.inl ⟨by rfl, ?_⟩) hHeld ?_ ?_
         rotate_left
         ·
          rintro w' ⟨s0, s1, s2, s3⟩
          go_simp
          with_reducible rfl
         rotate_left
         ·
          simp only [Act.put, List.setIfInBounds_toArray, List.set_cons_zero, List.set_cons_succ, i64_w, i32_w]
          rfl
         refine take_ (i := 11) (N := some 69) (v := ?_) (a' := ?_) #[true, true, true, true, true, true, false, true, true, true, true, true, false] rfl rfl (take_ofW HT_.out HW_.out (by kernel_rfl)) (fun _ _ _ h => h) (Or.inl ⟨by rfl, ?_⟩) hHeld ?_ ?_
         rotate_left
         ·
          rintro w' ⟨s0, s1, s2, s3⟩
          go_simp
          with_reducible rfl
         rotate_left
         ·
          simp only [Act.put, List.setIfInBounds_toArray, List.set_cons_zero, List.set_cons_succ, i64_w, i32_w]
          rfl
         refine one_ (i := 6) (N := some 64) #[true, true, true, true, true, true, true, true, true, true, true, true, false] rfl rfl (one_of HT_.out (by kernel_rfl)) (by decide) (fun K hK => ?_)
         refine goes_ Try.func21 (by kernel_rfl) rfl #[.slice Ao23 t584.length co23, .int .i64 ((rd_T44 t578 x9_1).f0)] (by rfl) rfl rfl (by (try simp only [List.map_toArray, List.map_cons, List.map_nil]); first | done | rfl | (simp only [List.length_drop, List.length_take]; rfl)) ?_
         with_reducible refine (impl_AccountKind.calls k1 _ _ t584 ((rd_T44 t578 x9_1).f0) t595 _ ?side1 ?side2 A20.out).mono ?_
         (case side1 => repeat (first | exact (Kd.R_reads' HO_5.out).2.2 | (with_reducible refine Kd.C_alloc ?_ _) | (with_reducible refine Kd.C_drewN ?_ _) | (with_reducible refine Kd.C_drew ?_)))
         (case side2 => exact (Kd.R_reads' HO_5.out).2.1)
         rintro e w24 ⟨rfl, hb⟩
         have HS0_ := (hb.cell (World.block_lt_of_cell? _ _ (hHeld.1))).trans (hHeld.1)
         have HS1_ := (hb.cell (World.block_lt_of_cell? _ _ (hHeld.2.1))).trans (hHeld.2.1)
         have HS2_ := (hb.cell (World.block_lt_of_cell? _ _ (hHeld.2.2.1))).trans (hHeld.2.2.1)
         have HS3_ := (hb.cell (World.block_lt_of_cell? _ _ (hHeld.2.2.2))).trans (hHeld.2.2.2)
         refine ⟨_, rfl, ?_⟩
         have n0_ := Aside0.mk (Kd.R_below (by (with_reducible repeat (first | apply Kd.R_alloc | apply Kd.R_drewN | apply Kd.R_drew)); exact HO_3.out) hb)
         have n1_ := Aside0.mk (Kd.R_below (by (with_reducible repeat (first | apply Kd.R_alloc | apply Kd.R_drewN | apply Kd.R_drew)); exact HO_5.out) hb)
         have n2_ := Aside0.mk (blk_below (g := gb583) (o := .cells #[.int .i64 t581, .int .i64 t582] 44 (0, 0)) (by (with_reducible repeat (first | refine blk_drewN ?_ _ | refine blk_drew ?_ | refine blk_alloc ?_ _)); exact BK583.out) hb)
         have n3_ := Aside0.mk (below_step (by repeat (first | (with_reducible first | exact HB.out | apply below_alloc | apply pw_below_drewN | apply below_drew1 | refine below_set ?_ GE583.out) | exact HB.out)) hb)
         clear HO_3
         clear HO_5
         clear BK583
         clear HB
         have HO_3 := n0_
         have HO_5 := n1_
         have BK583 := n2_
         have HB := n3_
         clear n0_ n1_ n2_ n3_
         (try clear hb)
         (try clear hb2)
         (try clear hk)
         (try clear hi)
         refine hK.out _ _ ⟨HS0_, HS1_, HS2_, HS3_⟩ (fun hHeld => ?_)
         clear hK K
         refine norm_ (a' := ?_) ?_ ?_
         rotate_left
         ·
          show Act.put _ (some 64) _ = _
          simp only [Act.put, List.setIfInBounds_toArray, List.set_cons_zero, List.set_cons_succ, i64_w, i32_w]
          rfl
         refine pure_ (i := 12) (N := some 70) (v := ?_) (a' := ?_) #[true, true, true, true, true, true, true, true, true, true, true, true, true] rfl rfl (any_of HT_.out (by kernel_rfl)) (fun _ _ _ h => h) (Or.inl ⟨by rfl, ?_⟩) ?_ ?_
         rotate_left
         ·
          intro w'
          go_simp
          with_reducible rfl
         rotate_left
         ·
          simp only [Act.put, List.setIfInBounds_toArray, List.set_cons_zero, List.set_cons_succ, i64_w, i32_w]
          rfl
         refine done_ (done_of HT_.out (by kernel_rfl)) ?_
         try go_wp2
         go_roundg k1
         case measure => have := HK1.out; omega
         case rel => exact ⟨(wrap64 (x9_1 + 1)), (by first | rfl | (simp; done) | (simp [*]; done)), H', ⟨by have := HK1.out; omega⟩, ⟨by (with_reducible repeat (first | apply Kd.R_alloc | apply Kd.R_drewN | apply Kd.R_drew)); exact HO_3.out⟩, ⟨by (with_reducible repeat (first | apply Kd.R_alloc | apply Kd.R_drewN | apply Kd.R_drew)); exact HO_5.out⟩, ⟨by (with_reducible repeat (first | refine blk_drewN ?_ _ | refine blk_drew ?_ | refine blk_alloc ?_ _)); exact BK583.out⟩, ⟨by repeat (first | (with_reducible first | exact HB.out | apply below_alloc | apply pw_below_drewN | apply below_drew1 | refine below_set ?_ GE583.out) | exact HB.out)⟩⟩
        ·
         rw [if_neg c21] at H
         exact absurd H (by simp)
       ·
        rw [if_neg c19] at H
        exact absurd H (by simp)
      ·
       rw [if_neg c18] at H
       have c18b0 : decide (x9_1 < (t578.length : Int)) = false := decide_eq_false c18
       clear c18
       have HC25 := Aside0.mk H
       clear H
       go_upto_if 71 with (fail)
       go_cut [10] (fun v10 wc => ∃ (kq : Nat) (x10_24 : Int), v10 = .int .i64 x10_24 ∧ Aside0 (laws_FnChart.j1 kq l0 t578 t584 t587 x10_24 t581 t582 = some r) ∧ Aside0 (kq ≤ k1) ∧ Aside0 (Kd.R k44 44 wc w.heap.size (fun k_ => some k_ ≠ (v585 : Value).ownBlock ∧ k_ ≠ gb583) (.slice Ao13 t578.length co13) t578) ∧ Aside0 (Kd.R k44 44 wc w.heap.size (fun k_ => some k_ ≠ ((.slice Ao13 t578.length co13) : Value).ownBlock ∧ k_ ≠ gb583) v585 t584) ∧ Aside0 (wc.heap[gb583]? = some (.cells #[.int .i64 t581, .int .i64 t582] 44 (0, 0))) ∧ Aside0 (Below w.heap.size w wc))
       case first =>
        have H := HC25.out
        clear HC25
        by_cases c26 : t587 = true
        ·
         subst c26
         have H1 : (laws_FnChart.j1 k1 l0 t578 t584 true 1 t581 t582) = some r := by rw [if_pos rfl] at H; exact H
         clear H
         have H := H1
         clear H1
         have H' := Aside0.mk H
         clear H
         go_wp2
         go_meet
         case rel => exact ⟨_, (1), (by first | rfl | (simp; done) | (simp [*]; done)), H', ⟨by have := HK1.out; first | omega | exact Nat.le_refl _⟩, ⟨by (with_reducible repeat (first | apply Kd.R_alloc | apply Kd.R_drewN | apply Kd.R_drew)); exact HO_3.out⟩, ⟨by (with_reducible repeat (first | apply Kd.R_alloc | apply Kd.R_drewN | apply Kd.R_drew)); exact HO_5.out⟩, ⟨by (with_reducible repeat (first | refine blk_drewN ?_ _ | refine blk_drew ?_ | refine blk_alloc ?_ _)); exact BK583.out⟩, ⟨by repeat (first | (with_reducible first | exact HB.out | apply below_alloc | apply pw_below_drewN | apply below_drew1 | refine below_set ?_ GE583.out) | exact HB.out)⟩⟩
        ·
         replace c26 := Bool.eq_false_iff.mpr c26
         subst c26
         have H1 : (laws_FnChart.j1 k1 l0 t578 t584 false 0 t581 t582) = some r := by rw [if_neg (show ¬ (false = true) by decide)] at H; exact H
         clear H
         have H := H1
         clear H1
         have H' := Aside0.mk H
         clear H
         go_wp2
         go_meet
         case rel => exact ⟨_, (0), (by first | rfl | (simp; done) | (simp [*]; done)), H', ⟨by have := HK1.out; first | omega | exact Nat.le_refl _⟩, ⟨by (with_reducible repeat (first | apply Kd.R_alloc | apply Kd.R_drewN | apply Kd.R_drew)); exact HO_3.out⟩, ⟨by (with_reducible repeat (first | apply Kd.R_alloc | apply Kd.R_drewN | apply Kd.R_drew)); exact HO_5.out⟩, ⟨by (with_reducible repeat (first | refine blk_drewN ?_ _ | refine blk_drew ?_ | refine blk_alloc ?_ _)); exact BK583.out⟩, ⟨by repeat (first | (with_reducible first | exact HB.out | apply below_alloc | apply pw_below_drewN | apply below_drew1 | refine below_set ?_ GE583.out) | exact HB.out)⟩⟩
       case rest =>
        clear HC25
        try clear c1
        try clear c2
        try clear p2
        try clear c3
        try clear p5
        try clear q5
        try clear hx5
        try clear p6
        try clear c7
        try clear c7b0
        try clear c7b1
        try clear c7b2
        try clear c9
        try clear c11
        try clear c18
        try clear c18b0
        try clear c19
        try clear c19b0
        try clear c21
        try clear c21b0
        try clear c21b1
        try clear c24
        try clear c26
        try clear hcz12_0
        try clear hcz12_1
        try clear hcz15_0
        try clear hcz15_1
        try clear hfz12_0
        try clear hfz12_1
        try clear hfz15_0
        try clear hfz15_1
        try clear hx594_0
        try clear hx594_1
        try clear hx596_0
        try clear hx596_1
        try clear p2
        try clear p594
        try clear p596
        try clear q594
        try clear q596
        obtain ⟨kq, x10_24, rfl, HA, HJ24, HO_3, HO_5, BK583, HB⟩ := hcut
        cases kq with
        | zero => exact absurd HA.out (by simp [laws_FnChart.j1])
        | succ kj24 =>
         have H := HA.out
         clear HA
         simp only [laws_FnChart.j1] at H
         have HC27 := Aside0.mk H
         clear H
         go_upto_region 18 with (fail)
         go_cut [95] (fun v95 wc => ∃ (kq : Nat) (x95_26 : Bool), v95 = .bool x95_26 ∧ Aside0 (laws_FnChart.j2 kq l0 x95_26 = some r) ∧ Aside0 (kq ≤ kj24) ∧ Aside0 (wc.heap[gb583]? = some (.cells #[.int .i64 t581, .int .i64 t582] 44 (0, 0))) ∧ Aside0 (Below w.heap.size w wc))
         case first =>
          have H := HC27.out
          clear HC27
          by_cases c28 : t587 = true
          ·
           subst c28
           have H1 : ((impl_AccountKind.f kj24 t584 t581).bind fun t597 => (if t597 = t582 then (if (t584.length : Int) = (wrap64 ((t578.length : Int) + x10_24)) then ((impl_AccountsOk.f kj24 t584).bind fun t598 => (laws_FnChart.j2 kj24 l0 (!t598))) else (none)) else (none))) = some r := by rw [if_pos rfl] at H; exact H
           clear H
           have H := H1
           clear H1
           replace H := Option.bind_eq_some_iff.mp H
           obtain ⟨t597, A290, H⟩ := H
           replace H : (if t597 = t582 then (if (t584.length : Int) = (wrap64 ((t578.length : Int) + x10_24)) then ((impl_AccountsOk.f kj24 t584).bind fun t598 => (laws_FnChart.j2 kj24 l0 (!t598))) else (none)) else (none)) = some r := H
           have A29 := Aside0.mk A290
           clear A290
           by_cases c30 : t597 = t582
           ·
            rw [if_pos c30] at H
            have c30b0 : (t597 == t582) = true := beq_iff_eq.mpr c30
            have c30b1 : (t597 != t582) = false := bne_eq_false_iff_eq.mpr c30
            clear c30
            (first | rw [c30b0] | (simp only [i64_w, i32_w]; rw [c30b0]) | skip)
            by_cases c31 : (t584.length : Int) = (wrap64 ((t578.length : Int) + x10_24))
            ·
             rw [if_pos c31] at H
             have c31b0 : ((t584.length : Int) == (wrap64 ((t578.length : Int) + x10_24))) = true := beq_iff_eq.mpr c31
             have c31b1 : ((t584.length : Int) != (wrap64 ((t578.length : Int) + x10_24))) = false := bne_eq_false_iff_eq.mpr c31
             clear c31
             replace H := Option.bind_eq_some_iff.mp H
             obtain ⟨t598, A320, H⟩ := H
             replace H : (laws_FnChart.j2 kj24 l0 (!t598)) = some r := H
             have A32 := Aside0.mk A320
             clear A320
             have H' := Aside0.mk H
             clear H
             try go_wp2
             have n0_ := Aside0.mk (Kd.R_drew HO_3.out)
             have n1_ := Aside0.mk (Kd.R_drew HO_5.out)
             have n2_ := Aside0.mk (blk_drew BK583.out)
             have n3_ := Aside0.mk (below_drew1 HB.out)
             clear HO_3
             clear HO_5
             clear BK583
             clear HB
             have HO_3 := n0_
             have HO_5 := n1_
             have BK583 := n2_
             have HB := n3_
             clear n0_ n1_ n2_ n3_
             obtain ⟨Ao34, co34, eo34⟩ := Kd.R_slice HO_5.out
             (first | subst eo34 | (injection eo34 with f1_ f2_ f3_; have f4_ := f1_.symm; have f5_ := f3_.symm; clear f1_ f2_ f3_; subst f4_; subst f5_))
             refine start_ (n := 24) (S := fun w' => w'.cell? ⟨gb583, 0, none⟩ = some (.int .i64 t581) ∧ w'.cell? ⟨gb583, 1, none⟩ = some (.int .i64 t582)) (ds := []) #[false, false, false, false, false, false, false, false, false, false, false, false, false, false, false, false, false, false, false, false, false, false, false, false] (by kernel_rfl) rfl rfl ⟨(blk_cell BK583.out 0).trans rfl, (blk_cell BK583.out 1).trans rfl⟩ (fun hHeld => ?_); refine with_tabW laws_FnChart.tab18 laws_FnChart.bits18 (fun HT_ HW_ => ?_)
             generalize wc.drew = w33 at HO_3 HO_5 BK583 HB hHeld ⊢
             refine pure_ (i := 0) (N := some 72) (v := ?_) (a' := ?_) #[true, false, false, false, false, false, false, false, false, false, false, false, false, false, false, false, false, false, false, false, false, false, false, false] rfl rfl (any_of HT_.out (by kernel_rfl)) (fun _ _ _ h => h) (Or.inl ⟨by rfl, ?_⟩) ?_ ?_
             rotate_left
             ·
              intro w'
              go_simp
              with_reducible rfl
             rotate_left
             ·
              simp only [Act.put, List.setIfInBounds_toArray, List.set_cons_zero, List.set_cons_succ, i64_w, i32_w]
              rfl
             refine pure_ (i := 1) (N := some 73) (v := ?_) (a' := ?_) #[true, true, false, false, false, false, false, false, false, false, false, false, false, false, false, false, false, false, false, false, false, false, false, false] rfl rfl (any_of HT_.out (by kernel_rfl)) (fun _ _ _ h => h) (Or.inl ⟨by rfl, ?_⟩) ?_ ?_
             rotate_left
             ·
              intro w'
              go_simp
              with_reducible rfl
             rotate_left
             ·
              simp only [Act.put, List.setIfInBounds_toArray, List.set_cons_zero, List.set_cons_succ, i64_w, i32_w]
              rfl
             refine pure_ (i := 2) (N := some 74) (v := ?_) (a' := ?_) #[true, true, true, false, false, false, false, false, false, false, false, false, false, false, false, false, false, false, false, false, false, false, false, false] rfl rfl (any_of HT_.out (by kernel_rfl)) (fun _ _ _ h => h) (Or.inl ⟨by rfl, ?_⟩) ?_ ?_
             rotate_left
             ·
              intro w'
              go_simp
              with_reducible rfl
             rotate_left
             ·
              simp only [Act.put, List.setIfInBounds_toArray, List.set_cons_zero, List.set_cons_succ, i64_w, i32_w]
              rfl
             refine pure_ (i := 3) (N := some 75) (v := ?_) (a' := ?_) #[true, true, true, true, false, false, false, false, false, false, false, false, false, false, false, false, false, false, false, false, false, false, false, false] rfl rfl (any_of HT_.out (by kernel_rfl)) (fun _ _ _ h => h) (Or.inl ⟨by rfl, ?_⟩) ?_ ?_
             rotate_left
             ·
              intro w'
              go_simp
              with_reducible rfl
             rotate_left
             ·
              simp only [Act.put, List.setIfInBounds_toArray, List.set_cons_zero, List.set_cons_succ, i64_w, i32_w]
              rfl
             refine pure_ (i := 6) (N := some 78) (v := ?_) (a' := ?_) #[true, true, true, true, false, false, true, false, false, false, false, false, false, false, false, false, false, false, false, false, false, false, false, false] rfl rfl (any_of HT_.out (by kernel_rfl)) (fun _ _ _ h => h) (Or.inl ⟨by rfl, ?_⟩) ?_ ?_
             rotate_left
             ·
              intro w'
              go_simp
              with_reducible rfl
             rotate_left
             ·
              simp only [Act.put, List.setIfInBounds_toArray, List.set_cons_zero, List.set_cons_succ, i64_w, i32_w]
              rfl
             refine take_ (i := 4) (N := some 76) (v := ?_) (a' := ?_) #[true, true, true, true, true, false, true, false, false, false, false, false, false, false, false, false, false, false, false, false, false, false, false, false] rfl rfl (take_ofW HT_.out HW_.out (by kernel_rfl)) (fun _ _ _ h => h) (Or.inl ⟨by rfl, ?_⟩) hHeld ?_ ?_
             rotate_left
             ·
              rintro w' ⟨s0, s1⟩
              go_simp
              with_reducible rfl
             rotate_left
             ·
              simp only [Act.put, List.setIfInBounds_toArray, List.set_cons_zero, List.set_cons_succ, i64_w, i32_w]
              rfl
             refine take_ (i := 7) (N := some 79) (v := ?_) (a' := ?_) #[true, true, true, true, true, false, true, true, false, false, false, false, false, false, false, false, false, false, false, false, false, false, false, false] rfl rfl (take_ofW HT_.out HW_.out (by kernel_rfl)) (fun _ _ _ h => h) (Or.inl ⟨by rfl, ?_⟩) hHeld ?_ ?_
             rotate_left
             ·
              rintro w' ⟨s0, s1⟩
              go_simp
              with_reducible rfl
             rotate_left
             ·
              simp only [Act.put, List.setIfInBounds_toArray, List.set_cons_zero, List.set_cons_succ, i64_w, i32_w]
              rfl
             refine one_ (i := 5) (N := some 77) #[true, true, true, true, true, true, true, true, false, false, false, false, false, false, false, false, false, false, false, false, false, false, false, false] rfl rfl (one_of HT_.out (by kernel_rfl)) (by decide) (fun K hK => ?_)
             refine goes_ Try.func21 (by kernel_rfl) rfl #[.slice Ao34 t584.length co34, .int .i64 t581] (by rfl) rfl rfl (by (try simp only [List.map_toArray, List.map_cons, List.map_nil]); first | done | rfl | (simp only [List.length_drop, List.length_take]; rfl)) ?_
             with_reducible refine (impl_AccountKind.calls kj24 _ _ t584 t581 t597 _ ?side1 ?side2 A29.out).mono ?_
             (case side1 => repeat (first | exact (Kd.R_reads' HO_5.out).2.2 | (with_reducible refine Kd.C_alloc ?_ _) | (with_reducible refine Kd.C_drewN ?_ _) | (with_reducible refine Kd.C_drew ?_)))
             (case side2 => exact (Kd.R_reads' HO_5.out).2.1)
             rintro e w35 ⟨rfl, hb⟩
             refine ⟨_, rfl, ?_⟩
             have n0_ := Aside0.mk (Kd.R_below (by (with_reducible repeat (first | apply Kd.R_alloc | apply Kd.R_drewN | apply Kd.R_drew)); exact HO_3.out) hb)
             have n1_ := Aside0.mk (Kd.R_below (by (with_reducible repeat (first | apply Kd.R_alloc | apply Kd.R_drewN | apply Kd.R_drew)); exact HO_5.out) hb)
             have n2_ := Aside0.mk (blk_below (g := gb583) (o := .cells #[.int .i64 t581, .int .i64 t582] 44 (0, 0)) (by (with_reducible repeat (first | refine blk_drewN ?_ _ | refine blk_drew ?_ | refine blk_alloc ?_ _)); exact BK583.out) hb)
             have n3_ := Aside0.mk (below_step (by repeat (first | (with_reducible first | exact HB.out | apply below_alloc | apply pw_below_drewN | apply below_drew1 | refine below_set ?_ GE583.out) | exact HB.out)) hb)
             clear HO_3
             clear HO_5
             clear BK583
             clear HB
             have HO_3 := n0_
             have HO_5 := n1_
             have BK583 := n2_
             have HB := n3_
             clear n0_ n1_ n2_ n3_
             (try clear hb)
             (try clear hb2)
             (try clear hk)
             (try clear hi)
             refine hK.out _ _ ⟨(blk_cell BK583.out 0).trans rfl, (blk_cell BK583.out 1).trans rfl⟩ (fun hHeld => ?_)
             clear hK K
             refine norm_ (a' := ?_) ?_ ?_
             rotate_left
             ·
              show Act.put _ (some 77) _ = _
              simp only [Act.put, List.setIfInBounds_toArray, List.set_cons_zero, List.set_cons_succ, i64_w, i32_w]
              rfl
             refine pure_ (i := 8) (N := some 80) (v := ?_) (a' := ?_) #[true, true, true, true, true, true, true, true, true, false, false, false, false, false, false, false, false, false, false, false, false, false, false, false] rfl rfl (any_of HT_.out (by kernel_rfl)) (fun _ _ _ h => h) (Or.inl ⟨by rfl, ?_⟩) ?_ ?_
             rotate_left
             ·
              intro w'
              go_simp
              with_reducible rfl
             rotate_left
             ·
              simp only [Act.put, List.setIfInBounds_toArray, List.set_cons_zero, List.set_cons_succ, i64_w, i32_w]
              rfl
             refine pure_ (i := 9) (N := some 81) (v := ?_) (a' := ?_) #[true, true, true, true, true, true, true, true, true, true, false, false, false, false, false, false, false, false, false, false, false, false, false, false] rfl rfl (any_of HT_.out (by kernel_rfl)) (fun _ _ _ h => h) (Or.inl ⟨by rfl, ?_⟩) ?_ ?_
             rotate_left
             ·
              intro w'
              go_simp
              with_reducible rfl
             rotate_left
             ·
              simp only [Act.put, List.setIfInBounds_toArray, List.set_cons_zero, List.set_cons_succ, i64_w, i32_w]
              rfl
             refine pure_ (i := 10) (N := some 82) (v := ?_) (a' := ?_) #[true, true, true, true, true, true, true, true, true, true, true, false, false, false, false, false, false, false, false, false, false, false, false, false] rfl rfl (any_of HT_.out (by kernel_rfl)) (fun _ _ _ h => h) (Or.inl ⟨by rfl, ?_⟩) ?_ ?_
             rotate_left
             ·
              intro w'
              go_simp
              with_reducible rfl
             rotate_left
             ·
              simp only [Act.put, List.setIfInBounds_toArray, List.set_cons_zero, List.set_cons_succ, i64_w, i32_w]
              rfl
             refine pure_ (i := 11) (N := some 83) (v := ?_) (a' := ?_) #[true, true, true, true, true, true, true, true, true, true, true, true, false, false, false, false, false, false, false, false, false, false, false, false] rfl rfl (any_of HT_.out (by kernel_rfl)) (fun _ _ _ h => h) (Or.inl ⟨by rfl, ?_⟩) ?_ ?_
             rotate_left
             ·
              intro w'
              go_simp
              with_reducible rfl
             rotate_left
             ·
              simp only [Act.put, List.setIfInBounds_toArray, List.set_cons_zero, List.set_cons_succ, i64_w, i32_w]
              rfl
             refine pure_ (i := 12) (N := some 84) (v := ?_) (a' := ?_) #[true, true, true, true, true, true, true, true, true, true, true, true, true, false, false, false, false, false, false, false, false, false, false, false] rfl rfl (any_of HT_.out (by kernel_rfl)) (fun _ _ _ h => h) (Or.inl ⟨by rfl, ?_⟩) ?_ ?_
             rotate_left
             ·
              intro w'
              go_simp
              with_reducible rfl
             rotate_left
             ·
              simp only [Act.put, List.setIfInBounds_toArray, List.set_cons_zero, List.set_cons_succ, i64_w, i32_w]
              rfl
             refine pure_ (i := 13) (N := some 85) (v := ?_) (a' := ?_) #[true, true, true, true, true, true, true, true, true, true, true, true, true, true, false, false, false, false, false, false, false, false, false, false] rfl rfl (any_of HT_.out (by kernel_rfl)) (fun _ _ _ h => h) (Or.inl ⟨by rfl, ?_⟩) ?_ ?_
             rotate_left
             ·
              intro w'
              go_simp
              with_reducible rfl
             rotate_left
             ·
              simp only [Act.put, List.setIfInBounds_toArray, List.set_cons_zero, List.set_cons_succ, i64_w, i32_w]
              rfl
             refine pure_ (i := 14) (N := some 86) (v := ?_) (a' := ?_) #[true, true, true, true, true, true, true, true, true, true, true, true, true, true, true, false, false, false, false, false, false, false, false, false] rfl rfl (any_of HT_.out (by kernel_rfl)) (fun _ _ _ h => h) (Or.inl ⟨by rfl, ?_⟩) ?_ ?_
             rotate_left
             ·
              intro w'
              go_simp
              with_reducible rfl
             rotate_left
             ·
              simp only [Act.put, List.setIfInBounds_toArray, List.set_cons_zero, List.set_cons_succ, i64_w, i32_w]
              rfl
             refine pure_ (i := 15) (N := some 87) (v := ?_) (a' := ?_) #[true, true, true, true, true, true, true, true, true, true, true, true, true, true, true, true, false, false, false, false, false, false, false, false] rfl rfl (any_of HT_.out (by kernel_rfl)) (fun _ _ _ h => h) (Or.inl ⟨by rfl, ?_⟩) ?_ ?_
             rotate_left
             ·
              intro w'
              go_simp
              with_reducible rfl
             rotate_left
             ·
              simp only [Act.put, List.setIfInBounds_toArray, List.set_cons_zero, List.set_cons_succ, i64_w, i32_w]
              rfl
             refine pure_ (i := 16) (N := some 88) (v := ?_) (a' := ?_) #[true, true, true, true, true, true, true, true, true, true, true, true, true, true, true, true, true, false, false, false, false, false, false, false] rfl rfl (any_of HT_.out (by kernel_rfl)) (fun _ _ _ h => h) (Or.inl ⟨by rfl, ?_⟩) ?_ ?_
             rotate_left
             ·
              intro w'
              go_simp
              with_reducible rfl
             rotate_left
             ·
              simp only [Act.put, List.setIfInBounds_toArray, List.set_cons_zero, List.set_cons_succ, i64_w, i32_w]
              rfl
             refine pure_ (i := 17) (N := some 89) (v := ?_) (a' := ?_) #[true, true, true, true, true, true, true, true, true, true, true, true, true, true, true, true, true, true, false, false, false, false, false, false] rfl rfl (any_of HT_.out (by kernel_rfl)) (fun _ _ _ h => h) (Or.inl ⟨by rfl, ?_⟩) ?_ ?_
             rotate_left
             ·
              intro w'
              go_simp
              with_reducible rfl
             rotate_left
             ·
              simp only [Act.put, List.setIfInBounds_toArray, List.set_cons_zero, List.set_cons_succ, i64_w, i32_w]
              rfl
             refine pure_ (i := 18) (N := some 90) (v := ?_) (a' := ?_) #[true, true, true, true, true, true, true, true, true, true, true, true, true, true, true, true, true, true, true, false, false, false, false, false] rfl rfl (any_of HT_.out (by kernel_rfl)) (fun _ _ _ h => h) (Or.inl ⟨by rfl, ?_⟩) ?_ ?_
             rotate_left
             ·
              intro w'
              go_simp
              with_reducible rfl
             rotate_left
             ·
              simp only [Act.put, List.setIfInBounds_toArray, List.set_cons_zero, List.set_cons_succ, i64_w, i32_w]
              rfl
             refine pure_ (i := 19) (N := some 91) (v := ?_) (a' := ?_) #[true, true, true, true, true, true, true, true, true, true, true, true, true, true, true, true, true, true, true, true, false, false, false, false] rfl rfl (any_of HT_.out (by kernel_rfl)) (fun _ _ _ h => h) (Or.inl ⟨by rfl, ?_⟩) ?_ ?_
             rotate_left
             ·
              intro w'
              go_simp
              with_reducible rfl
             rotate_left
             ·
              simp only [Act.put, List.setIfInBounds_toArray, List.set_cons_zero, List.set_cons_succ, i64_w, i32_w]
              rfl
             refine pure_ (i := 20) (N := some 92) (v := ?_) (a' := ?_) #[true, true, true, true, true, true, true, true, true, true, true, true, true, true, true, true, true, true, true, true, true, false, false, false] rfl rfl (any_of HT_.out (by kernel_rfl)) (fun _ _ _ h => h) (Or.inl ⟨by rfl, ?_⟩) ?_ ?_
             rotate_left
             ·
              intro w'
              go_simp
              with_reducible rfl
             rotate_left
             ·
              simp only [Act.put, List.setIfInBounds_toArray, List.set_cons_zero, List.set_cons_succ, i64_w, i32_w]
              rfl
             refine one_ (i := 21) (N := some 93) #[true, true, true, true, true, true, true, true, true, true, true, true, true, true, true, true, true, true, true, true, true, true, false, false] rfl rfl (one_of HT_.out (by kernel_rfl)) (by decide) (fun K hK => ?_)
             refine goes_ Try.func13 (by kernel_rfl) rfl #[.slice Ao34 t584.length co34] (by rfl) rfl rfl (by (try simp only [List.map_toArray, List.map_cons, List.map_nil]); first | done | rfl | (simp only [List.length_drop, List.length_take]; rfl)) ?_
             with_reducible refine (impl_AccountsOk.calls kj24 _ _ t584 t598 _ ?side1 ?side2 A32.out).mono ?_
             (case side1 => repeat (first | exact (Kd.R_reads' HO_5.out).2.2 | (with_reducible refine Kd.C_alloc ?_ _) | (with_reducible refine Kd.C_drewN ?_ _) | (with_reducible refine Kd.C_drew ?_)))
             (case side2 => exact (Kd.R_reads' HO_5.out).2.1)
             rintro e w36 ⟨rfl, hb⟩
             refine ⟨_, rfl, ?_⟩
             have n0_ := Aside0.mk (Kd.R_below (by (with_reducible repeat (first | apply Kd.R_alloc | apply Kd.R_drewN | apply Kd.R_drew)); exact HO_3.out) hb)
             have n1_ := Aside0.mk (Kd.R_below (by (with_reducible repeat (first | apply Kd.R_alloc | apply Kd.R_drewN | apply Kd.R_drew)); exact HO_5.out) hb)
             have n2_ := Aside0.mk (blk_below (g := gb583) (o := .cells #[.int .i64 t581, .int .i64 t582] 44 (0, 0)) (by (with_reducible repeat (first | refine blk_drewN ?_ _ | refine blk_drew ?_ | refine blk_alloc ?_ _)); exact BK583.out) hb)
             have n3_ := Aside0.mk (below_step (by repeat (first | (with_reducible first | exact HB.out | apply below_alloc | apply pw_below_drewN | apply below_drew1 | refine below_set ?_ GE583.out) | exact HB.out)) hb)
             clear HO_3
             clear HO_5
             clear BK583
             clear HB
             have HO_3 := n0_
             have HO_5 := n1_
             have BK583 := n2_
             have HB := n3_
             clear n0_ n1_ n2_ n3_
             (try clear hb)
             (try clear hb2)
             (try clear hk)
             (try clear hi)
             refine hK.out _ _ ⟨(blk_cell BK583.out 0).trans rfl, (blk_cell BK583.out 1).trans rfl⟩ (fun hHeld => ?_)
             clear hK K
             refine norm_ (a' := ?_) ?_ ?_
             rotate_left
             ·
              show Act.put _ (some 93) _ = _
              simp only [Act.put, List.setIfInBounds_toArray, List.set_cons_zero, List.set_cons_succ, i64_w, i32_w]
              rfl
             refine pure_ (i := 22) (N := some 94) (v := ?_) (a' := ?_) #[true, true, true, true, true, true, true, true, true, true, true, true, true, true, true, true, true, true, true, true, true, true, true, false] rfl rfl (any_of HT_.out (by kernel_rfl)) (fun _ _ _ h => h) (Or.inl ⟨by rfl, ?_⟩) ?_ ?_
             rotate_left
             ·
              intro w'
              go_simp
              with_reducible rfl
             rotate_left
             ·
              simp only [Act.put, List.setIfInBounds_toArray, List.set_cons_zero, List.set_cons_succ, i64_w, i32_w]
              rfl
             refine pure_ (i := 23) (N := some 95) (v := ?_) (a' := ?_) #[true, true, true, true, true, true, true, true, true, true, true, true, true, true, true, true, true, true, true, true, true, true, true, true] rfl rfl (any_of HT_.out (by kernel_rfl)) (fun _ _ _ h => h) (Or.inl ⟨by rfl, ?_⟩) ?_ ?_
             rotate_left
             ·
              intro w'
              go_simp
              with_reducible rfl
             rotate_left
             ·
              simp only [Act.put, List.setIfInBounds_toArray, List.set_cons_zero, List.set_cons_succ, i64_w, i32_w]
              rfl
             refine done_ (done_of HT_.out (by kernel_rfl)) ?_
             try go_wp2
             go_meet
             case rel => exact ⟨_, (!t598), (by first | rfl | (simp; done) | (simp [*]; done)), H', ⟨by have := HK1.out; have := HJ24.out; first | omega | exact Nat.le_refl _⟩, ⟨by (with_reducible repeat (first | refine blk_drewN ?_ _ | refine blk_drew ?_ | refine blk_alloc ?_ _)); exact BK583.out⟩, ⟨by repeat (first | (with_reducible first | exact HB.out | apply below_alloc | apply pw_below_drewN | apply below_drew1 | refine below_set ?_ GE583.out) | exact HB.out)⟩⟩
            ·
             rw [if_neg c31] at H
             have c31b0 : ((t584.length : Int) == (wrap64 ((t578.length : Int) + x10_24))) = false := beq_eq_false_iff_ne.mpr c31
             have c31b1 : ((t584.length : Int) != (wrap64 ((t578.length : Int) + x10_24))) = true := bne_iff_ne.mpr c31
             exact absurd H (by simp)
           ·
            rw [if_neg c30] at H
            have c30b0 : (t597 == t582) = false := beq_eq_false_iff_ne.mpr c30
            have c30b1 : (t597 != t582) = true := bne_iff_ne.mpr c30
            (first | rw [c30b0] | (simp only [i64_w, i32_w]; rw [c30b0]) | skip)
            exact absurd H (by simp)
          ·
           replace c28 := Bool.eq_false_iff.mpr c28
           subst c28
           have H1 : (if (t584.length : Int) = (wrap64 ((t578.length : Int) + x10_24)) then ((impl_AccountsOk.f kj24 t584).bind fun t599 => (laws_FnChart.j2 kj24 l0 (!t599))) else (none)) = some r := by rw [if_neg (show ¬ (false = true) by decide)] at H; exact H
           clear H
           have H := H1
           clear H1
           by_cases c37 : (t584.length : Int) = (wrap64 ((t578.length : Int) + x10_24))
           ·
            rw [if_pos c37] at H
            have c37b0 : ((t584.length : Int) == (wrap64 ((t578.length : Int) + x10_24))) = true := beq_iff_eq.mpr c37
            have c37b1 : ((t584.length : Int) != (wrap64 ((t578.length : Int) + x10_24))) = false := bne_eq_false_iff_eq.mpr c37
            clear c37
            replace H := Option.bind_eq_some_iff.mp H
            obtain ⟨t599, A380, H⟩ := H
            replace H : (laws_FnChart.j2 kj24 l0 (!t599)) = some r := H
            have A38 := Aside0.mk A380
            clear A380
            have H' := Aside0.mk H
            clear H
            try go_wp2
            have n0_ := Aside0.mk (Kd.R_drew HO_3.out)
            have n1_ := Aside0.mk (Kd.R_drew HO_5.out)
            have n2_ := Aside0.mk (blk_drew BK583.out)
            have n3_ := Aside0.mk (below_drew1 HB.out)
            clear HO_3
            clear HO_5
            clear BK583
            clear HB
            have HO_3 := n0_
            have HO_5 := n1_
            have BK583 := n2_
            have HB := n3_
            clear n0_ n1_ n2_ n3_
            obtain ⟨Ao40, co40, eo40⟩ := Kd.R_slice HO_5.out
            (first | subst eo40 | (injection eo40 with f1_ f2_ f3_; have f4_ := f1_.symm; have f5_ := f3_.symm; clear f1_ f2_ f3_; subst f4_; subst f5_))
            refine start_ (n := 24) (S := fun w' => True) (ds := []) #[false, false, false, false, false, false, false, false, false, false, false, false, false, false, false, false, false, false, false, false, false, false, false, false] (by kernel_rfl) rfl rfl trivial (fun hHeld => ?_); refine with_tabW laws_FnChart.tab18 laws_FnChart.bits18 (fun HT_ HW_ => ?_)
            generalize wc.drew = w39 at HO_3 HO_5 BK583 HB hHeld ⊢
            refine pure_ (i := 0) (N := some 72) (v := ?_) (a' := ?_) #[true, false, false, false, false, false, false, false, false, false, false, false, false, false, false, false, false, false, false, false, false, false, false, false] rfl rfl (any_of HT_.out (by kernel_rfl)) (fun _ _ _ h => h) (Or.inl ⟨by rfl, ?_⟩) ?_ ?_
            rotate_left
            ·
             intro w'
             go_simp
             with_reducible rfl
            rotate_left
            ·
             simp only [Act.put, List.setIfInBounds_toArray, List.set_cons_zero, List.set_cons_succ, i64_w, i32_w]
             rfl
            refine pure_ (i := 1) (N := some 73) (v := ?_) (a' := ?_) #[true, true, false, false, false, false, false, false, false, false, false, false, false, false, false, false, false, false, false, false, false, false, false, false] rfl rfl (any_of HT_.out (by kernel_rfl)) (fun _ _ _ h => h) (Or.inl ⟨by rfl, ?_⟩) ?_ ?_
            rotate_left
            ·
             intro w'
             go_simp
             with_reducible rfl
            rotate_left
            ·
             simp only [Act.put, List.setIfInBounds_toArray, List.set_cons_zero, List.set_cons_succ, i64_w, i32_w]
             rfl
            refine pure_ (i := 2) (N := some 74) (v := undef) (a' := ?_) #[true, true, true, false, false, false, false, false, false, false, false, false, false, false, false, false, false, false, false, false, false, false, false, false] rfl rfl (any_of HT_.out (by kernel_rfl)) (fun _ _ _ h => h) (Or.inr ⟨by rfl, rfl⟩) ?_ ?_
            rotate_left
            ·
             simp only [Act.put, List.setIfInBounds_toArray, List.set_cons_zero, List.set_cons_succ, i64_w, i32_w]
             rfl
            refine pure_ (i := 3) (N := some 75) (v := undef) (a' := ?_) #[true, true, true, true, false, false, false, false, false, false, false, false, false, false, false, false, false, false, false, false, false, false, false, false] rfl rfl (any_of HT_.out (by kernel_rfl)) (fun _ _ _ h => h) (Or.inr ⟨by rfl, rfl⟩) ?_ ?_
            rotate_left
            ·
             simp only [Act.put, List.setIfInBounds_toArray, List.set_cons_zero, List.set_cons_succ, i64_w, i32_w]
             rfl
            refine pure_ (i := 4) (N := some 76) (v := undef) (a' := ?_) #[true, true, true, true, true, false, false, false, false, false, false, false, false, false, false, false, false, false, false, false, false, false, false, false] rfl rfl (any_of HT_.out (by kernel_rfl)) (fun _ _ _ h => h) (Or.inr ⟨by rfl, rfl⟩) ?_ ?_
            rotate_left
            ·
             simp only [Act.put, List.setIfInBounds_toArray, List.set_cons_zero, List.set_cons_succ, i64_w, i32_w]
             rfl
            refine pure_ (i := 5) (N := some 77) (v := undef) (a' := ?_) #[true, true, true, true, true, true, false, false, false, false, false, false, false, false, false, false, false, false, false, false, false, false, false, false] rfl rfl (any_of HT_.out (by kernel_rfl)) (fun _ _ _ h => h) (Or.inr ⟨by rfl, rfl⟩) ?_ ?_
            rotate_left
            ·
             simp only [Act.put, List.setIfInBounds_toArray, List.set_cons_zero, List.set_cons_succ, i64_w, i32_w]
             rfl
            refine pure_ (i := 6) (N := some 78) (v := undef) (a' := ?_) #[true, true, true, true, true, true, true, false, false, false, false, false, false, false, false, false, false, false, false, false, false, false, false, false] rfl rfl (any_of HT_.out (by kernel_rfl)) (fun _ _ _ h => h) (Or.inr ⟨by rfl, rfl⟩) ?_ ?_
            rotate_left
            ·
             simp only [Act.put, List.setIfInBounds_toArray, List.set_cons_zero, List.set_cons_succ, i64_w, i32_w]
             rfl
            refine pure_ (i := 7) (N := some 79) (v := undef) (a' := ?_) #[true, true, true, true, true, true, true, true, false, false, false, false, false, false, false, false, false, false, false, false, false, false, false, false] rfl rfl (any_of HT_.out (by kernel_rfl)) (fun _ _ _ h => h) (Or.inr ⟨by rfl, rfl⟩) ?_ ?_
            rotate_left
            ·
             simp only [Act.put, List.setIfInBounds_toArray, List.set_cons_zero, List.set_cons_succ, i64_w, i32_w]
             rfl
            refine pure_ (i := 8) (N := some 80) (v := undef) (a' := ?_) #[true, true, true, true, true, true, true, true, true, false, false, false, false, false, false, false, false, false, false, false, false, false, false, false] rfl rfl (any_of HT_.out (by kernel_rfl)) (fun _ _ _ h => h) (Or.inr ⟨by rfl, rfl⟩) ?_ ?_
            rotate_left
            ·
             simp only [Act.put, List.setIfInBounds_toArray, List.set_cons_zero, List.set_cons_succ, i64_w, i32_w]
             rfl
            refine pure_ (i := 9) (N := some 81) (v := ?_) (a' := ?_) #[true, true, true, true, true, true, true, true, true, true, false, false, false, false, false, false, false, false, false, false, false, false, false, false] rfl rfl (any_of HT_.out (by kernel_rfl)) (fun _ _ _ h => h) (Or.inl ⟨by rfl, ?_⟩) ?_ ?_
            rotate_left
            ·
             intro w'
             go_simp
             with_reducible rfl
            rotate_left
            ·
             simp only [Act.put, List.setIfInBounds_toArray, List.set_cons_zero, List.set_cons_succ, i64_w, i32_w]
             rfl
            refine pure_ (i := 10) (N := some 82) (v := ?_) (a' := ?_) #[true, true, true, true, true, true, true, true, true, true, true, false, false, false, false, false, false, false, false, false, false, false, false, false] rfl rfl (any_of HT_.out (by kernel_rfl)) (fun _ _ _ h => h) (Or.inl ⟨by rfl, ?_⟩) ?_ ?_
            rotate_left
            ·
             intro w'
             go_simp
             with_reducible rfl
            rotate_left
            ·
             simp only [Act.put, List.setIfInBounds_toArray, List.set_cons_zero, List.set_cons_succ, i64_w, i32_w]
             rfl
            refine pure_ (i := 11) (N := some 83) (v := ?_) (a' := ?_) #[true, true, true, true, true, true, true, true, true, true, true, true, false, false, false, false, false, false, false, false, false, false, false, false] rfl rfl (any_of HT_.out (by kernel_rfl)) (fun _ _ _ h => h) (Or.inl ⟨by rfl, ?_⟩) ?_ ?_
            rotate_left
            ·
             intro w'
             go_simp
             with_reducible rfl
            rotate_left
            ·
             simp only [Act.put, List.setIfInBounds_toArray, List.set_cons_zero, List.set_cons_succ, i64_w, i32_w]
             rfl
            refine pure_ (i := 12) (N := some 84) (v := ?_) (a' := ?_) #[true, true, true, true, true, true, true, true, true, true, true, true, true, false, false, false, false, false, false, false, false, false, false, false] rfl rfl (any_of HT_.out (by kernel_rfl)) (fun _ _ _ h => h) (Or.inl ⟨by rfl, ?_⟩) ?_ ?_
            rotate_left
            ·
             intro w'
             go_simp
             with_reducible rfl
            rotate_left
            ·
             simp only [Act.put, List.setIfInBounds_toArray, List.set_cons_zero, List.set_cons_succ, i64_w, i32_w]
             rfl
            refine pure_ (i := 13) (N := some 85) (v := ?_) (a' := ?_) #[true, true, true, true, true, true, true, true, true, true, true, true, true, true, false, false, false, false, false, false, false, false, false, false] rfl rfl (any_of HT_.out (by kernel_rfl)) (fun _ _ _ h => h) (Or.inl ⟨by rfl, ?_⟩) ?_ ?_
            rotate_left
            ·
             intro w'
             go_simp
             with_reducible rfl
            rotate_left
            ·
             simp only [Act.put, List.setIfInBounds_toArray, List.set_cons_zero, List.set_cons_succ, i64_w, i32_w]
             rfl
            refine pure_ (i := 14) (N := some 86) (v := ?_) (a' := ?_) #[true, true, true, true, true, true, true, true, true, true, true, true, true, true, true, false, false, false, false, false, false, false, false, false] rfl rfl (any_of HT_.out (by kernel_rfl)) (fun _ _ _ h => h) (Or.inl ⟨by rfl, ?_⟩) ?_ ?_
            rotate_left
            ·
             intro w'
             go_simp
             with_reducible rfl
            rotate_left
            ·
             simp only [Act.put, List.setIfInBounds_toArray, List.set_cons_zero, List.set_cons_succ, i64_w, i32_w]
             rfl
            refine pure_ (i := 15) (N := some 87) (v := ?_) (a' := ?_) #[true, true, true, true, true, true, true, true, true, true, true, true, true, true, true, true, false, false, false, false, false, false, false, false] rfl rfl (any_of HT_.out (by kernel_rfl)) (fun _ _ _ h => h) (Or.inl ⟨by rfl, ?_⟩) ?_ ?_
            rotate_left
            ·
             intro w'
             go_simp
             with_reducible rfl
            rotate_left
            ·
             simp only [Act.put, List.setIfInBounds_toArray, List.set_cons_zero, List.set_cons_succ, i64_w, i32_w]
             rfl
            refine pure_ (i := 16) (N := some 88) (v := ?_) (a' := ?_) #[true, true, true, true, true, true, true, true, true, true, true, true, true, true, true, true, true, false, false, false, false, false, false, false] rfl rfl (any_of HT_.out (by kernel_rfl)) (fun _ _ _ h => h) (Or.inl ⟨by rfl, ?_⟩) ?_ ?_
            rotate_left
            ·
             intro w'
             go_simp
             with_reducible rfl
            rotate_left
            ·
             simp only [Act.put, List.setIfInBounds_toArray, List.set_cons_zero, List.set_cons_succ, i64_w, i32_w]
             rfl
            refine pure_ (i := 17) (N := some 89) (v := ?_) (a' := ?_) #[true, true, true, true, true, true, true, true, true, true, true, true, true, true, true, true, true, true, false, false, false, false, false, false] rfl rfl (any_of HT_.out (by kernel_rfl)) (fun _ _ _ h => h) (Or.inl ⟨by rfl, ?_⟩) ?_ ?_
            rotate_left
            ·
             intro w'
             go_simp
             with_reducible rfl
            rotate_left
            ·
             simp only [Act.put, List.setIfInBounds_toArray, List.set_cons_zero, List.set_cons_succ, i64_w, i32_w]
             rfl
            refine pure_ (i := 18) (N := some 90) (v := ?_) (a' := ?_) #[true, true, true, true, true, true, true, true, true, true, true, true, true, true, true, true, true, true, true, false, false, false, false, false] rfl rfl (any_of HT_.out (by kernel_rfl)) (fun _ _ _ h => h) (Or.inl ⟨by rfl, ?_⟩) ?_ ?_
            rotate_left
            ·
             intro w'
             go_simp
             with_reducible rfl
            rotate_left
            ·
             simp only [Act.put, List.setIfInBounds_toArray, List.set_cons_zero, List.set_cons_succ, i64_w, i32_w]
             rfl
            refine pure_ (i := 19) (N := some 91) (v := ?_) (a' := ?_) #[true, true, true, true, true, true, true, true, true, true, true, true, true, true, true, true, true, true, true, true, false, false, false, false] rfl rfl (any_of HT_.out (by kernel_rfl)) (fun _ _ _ h => h) (Or.inl ⟨by rfl, ?_⟩) ?_ ?_
            rotate_left
            ·
             intro w'
             go_simp
             with_reducible rfl
            rotate_left
            ·
             simp only [Act.put, List.setIfInBounds_toArray, List.set_cons_zero, List.set_cons_succ, i64_w, i32_w]
             rfl
            refine pure_ (i := 20) (N := some 92) (v := ?_) (a' := ?_) #[true, true, true, true, true, true, true, true, true, true, true, true, true, true, true, true, true, true, true, true, true, false, false, false] rfl rfl (any_of HT_.out (by kernel_rfl)) (fun _ _ _ h => h) (Or.inl ⟨by rfl, ?_⟩) ?_ ?_
            rotate_left
            ·
             intro w'
             go_simp
             with_reducible rfl
            rotate_left
            ·
             simp only [Act.put, List.setIfInBounds_toArray, List.set_cons_zero, List.set_cons_succ, i64_w, i32_w]
             rfl
            refine one_ (i := 21) (N := some 93) #[true, true, true, true, true, true, true, true, true, true, true, true, true, true, true, true, true, true, true, true, true, true, false, false] rfl rfl (one_of HT_.out (by kernel_rfl)) (by decide) (fun K hK => ?_)
            refine goes_ Try.func13 (by kernel_rfl) rfl #[.slice Ao40 t584.length co40] (by rfl) rfl rfl (by (try simp only [List.map_toArray, List.map_cons, List.map_nil]); first | done | rfl | (simp only [List.length_drop, List.length_take]; rfl)) ?_
            with_reducible refine (impl_AccountsOk.calls kj24 _ _ t584 t599 _ ?side1 ?side2 A38.out).mono ?_
            (case side1 => repeat (first | exact (Kd.R_reads' HO_5.out).2.2 | (with_reducible refine Kd.C_alloc ?_ _) | (with_reducible refine Kd.C_drewN ?_ _) | (with_reducible refine Kd.C_drew ?_)))
            (case side2 => exact (Kd.R_reads' HO_5.out).2.1)
            rintro e w41 ⟨rfl, hb⟩
            refine ⟨_, rfl, ?_⟩
            have n0_ := Aside0.mk (Kd.R_below (by (with_reducible repeat (first | apply Kd.R_alloc | apply Kd.R_drewN | apply Kd.R_drew)); exact HO_3.out) hb)
            have n1_ := Aside0.mk (Kd.R_below (by (with_reducible repeat (first | apply Kd.R_alloc | apply Kd.R_drewN | apply Kd.R_drew)); exact HO_5.out) hb)
            have n2_ := Aside0.mk (blk_below (g := gb583) (o := .cells #[.int .i64 t581, .int .i64 t582] 44 (0, 0)) (by (with_reducible repeat (first | refine blk_drewN ?_ _ | refine blk_drew ?_ | refine blk_alloc ?_ _)); exact BK583.out) hb)
            have n3_ := Aside0.mk (below_step (by repeat (first | (with_reducible first | exact HB.out | apply below_alloc | apply pw_below_drewN | apply below_drew1 | refine below_set ?_ GE583.out) | exact HB.out)) hb)
            clear HO_3
            clear HO_5
            clear BK583
            clear HB
            have HO_3 := n0_
            have HO_5 := n1_
            have BK583 := n2_
            have HB := n3_
            clear n0_ n1_ n2_ n3_
            (try clear hb)
            (try clear hb2)
            (try clear hk)
            (try clear hi)
            refine hK.out _ _ trivial (fun hHeld => ?_)
            clear hK K
            refine norm_ (a' := ?_) ?_ ?_
            rotate_left
            ·
             show Act.put _ (some 93) _ = _
             simp only [Act.put, List.setIfInBounds_toArray, List.set_cons_zero, List.set_cons_succ, i64_w, i32_w]
             rfl
            refine pure_ (i := 22) (N := some 94) (v := ?_) (a' := ?_) #[true, true, true, true, true, true, true, true, true, true, true, true, true, true, true, true, true, true, true, true, true, true, true, false] rfl rfl (any_of HT_.out (by kernel_rfl)) (fun _ _ _ h => h) (Or.inl ⟨by rfl, ?_⟩) ?_ ?_
            rotate_left
            ·
             intro w'
             go_simp
             with_reducible rfl
            rotate_left
            ·
             simp only [Act.put, List.setIfInBounds_toArray, List.set_cons_zero, List.set_cons_succ, i64_w, i32_w]
             rfl
            refine pure_ (i := 23) (N := some 95) (v := ?_) (a' := ?_) #[true, true, true, true, true, true, true, true, true, true, true, true, true, true, true, true, true, true, true, true, true, true, true, true] rfl rfl (any_of HT_.out (by kernel_rfl)) (fun _ _ _ h => h) (Or.inl ⟨by rfl, ?_⟩) ?_ ?_
            rotate_left
            ·
             intro w'
             go_simp
             with_reducible rfl
            rotate_left
            ·
             simp only [Act.put, List.setIfInBounds_toArray, List.set_cons_zero, List.set_cons_succ, i64_w, i32_w]
             rfl
            refine done_ (done_of HT_.out (by kernel_rfl)) ?_
            try go_wp2
            go_meet
            case rel => exact ⟨_, (!t599), (by first | rfl | (simp; done) | (simp [*]; done)), H', ⟨by have := HK1.out; have := HJ24.out; first | omega | exact Nat.le_refl _⟩, ⟨by (with_reducible repeat (first | refine blk_drewN ?_ _ | refine blk_drew ?_ | refine blk_alloc ?_ _)); exact BK583.out⟩, ⟨by repeat (first | (with_reducible first | exact HB.out | apply below_alloc | apply pw_below_drewN | apply below_drew1 | refine below_set ?_ GE583.out) | exact HB.out)⟩⟩
           ·
            rw [if_neg c37] at H
            have c37b0 : ((t584.length : Int) == (wrap64 ((t578.length : Int) + x10_24))) = false := beq_eq_false_iff_ne.mpr c37
            have c37b1 : ((t584.length : Int) != (wrap64 ((t578.length : Int) + x10_24))) = true := bne_iff_ne.mpr c37
            exact absurd H (by simp)
         case rest =>
          clear HC27
          try clear c1
          try clear c2
          try clear p2
          try clear c3
          try clear p5
          try clear q5
          try clear hx5
          try clear p6
          try clear c7
          try clear c7b0
          try clear c7b1
          try clear c7b2
          try clear c9
          try clear c11
          try clear c13
          try clear c18
          try clear c18b0
          try clear c19
          try clear c19b0
          try clear c21
          try clear c21b0
          try clear c21b1
          try clear c24
          try clear c26
          try clear c28
          try clear c30
          try clear c30b0
          try clear c30b1
          try clear c31
          try clear c31b0
          try clear c31b1
          try clear c37
          try clear c37b0
          try clear c37b1
          try clear hcz12_0
          try clear hcz12_1
          try clear hcz15_0
          try clear hcz15_1
          try clear hfz12_0
          try clear hfz12_1
          try clear hfz15_0
          try clear hfz15_1
          try clear hx594_0
          try clear hx594_1
          try clear hx596_0
          try clear hx596_1
          try clear p2
          try clear p5
          try clear p594
          try clear p596
          try clear p6
          try clear q5
          try clear q594
          try clear q596
          obtain ⟨kq, x95_26, rfl, HA, HJ26, BK583, HB⟩ := hcut
          cases kq with
          | zero => exact absurd HA.out (by simp [laws_FnChart.j2])
          | succ kj26 =>
           have H := HA.out
           clear HA
           simp only [laws_FnChart.j2] at H
           by_cases c42 : x95_26 = true
           ·
            subst c42
            have H1 : (none) = some r := by rw [if_pos rfl] at H; exact H
            clear H
            have H := H1
            clear H1
            exact absurd H (by simp)
           ·
            replace c42 := Bool.eq_false_iff.mpr c42
            subst c42
            have H1 : ((spec_DrawInstrPut.f kj26 l0).bind fun bt600 => ((impl_InstrPut.f kj26 bt600.1 bt600.2.1 bt600.2.2).bind fun bt606 => ((spec_InstrPut.f kj26 bt600.1 bt600.2.1 bt600.2.2).bind fun bt610 => (if (bt606.2 == bt610.2) = true then (if bt606.2 = true then ((impl_InstrKind.f kj26 bt606.1 bt600.2.1).bind fun t614 => (if t614 = bt600.2.2 then (if (bt606.1.length : Int) = (wrap64 ((bt600.1.length : Int) + 1)) then ((impl_InstrsOk.f kj26 bt606.1).bind fun t615 => (some t615)) else (none)) else (none))) else (some true)) else (none))))) = some r := by rw [if_neg (show ¬ (false = true) by decide)] at H; exact H
            clear H
            have H := H1
            clear H1
            replace H := Option.bind_eq_some_iff.mp H
            obtain ⟨⟨t600, t603, t604⟩, A430, H⟩ := H
            replace H : ((impl_InstrPut.f kj26 t600 t603 t604).bind fun bt606 => ((spec_InstrPut.f kj26 t600 t603 t604).bind fun bt610 => (if (bt606.2 == bt610.2) = true then (if bt606.2 = true then ((impl_InstrKind.f kj26 bt606.1 t603).bind fun t614 => (if t614 = t604 then (if (bt606.1.length : Int) = (wrap64 ((t600.length : Int) + 1)) then ((impl_InstrsOk.f kj26 bt606.1).bind fun t615 => (some t615)) else (none)) else (none))) else (some true)) else (none)))) = some r := H
            have A43 := Aside0.mk A430
            clear A430
            replace H := Option.bind_eq_some_iff.mp H
            obtain ⟨⟨t606, t609⟩, A440, H⟩ := H
            replace H : ((spec_InstrPut.f kj26 t600 t603 t604).bind fun bt610 => (if (t609 == bt610.2) = true then (if t609 = true then ((impl_InstrKind.f kj26 t606 t603).bind fun t614 => (if t614 = t604 then (if (t606.length : Int) = (wrap64 ((t600.length : Int) + 1)) then ((impl_InstrsOk.f kj26 t606).bind fun t615 => (some t615)) else (none)) else (none))) else (some true)) else (none))) = some r := H
            have A44 := Aside0.mk A440
            clear A440
            replace H := Option.bind_eq_some_iff.mp H
            obtain ⟨⟨t610, t613⟩, A450, H⟩ := H
            replace H : (if (t609 == t613) = true then (if t609 = true then ((impl_InstrKind.f kj26 t606 t603).bind fun t614 => (if t614 = t604 then (if (t606.length : Int) = (wrap64 ((t600.length : Int) + 1)) then ((impl_InstrsOk.f kj26 t606).bind fun t615 => (some t615)) else (none)) else (none))) else (some true)) else (none)) = some r := H
            have A45 := Aside0.mk A450
            clear A450
            by_cases c46 : (t609 == t613) = true
            ·
             rw [if_pos c46] at H
             have c46b0 : (t609 == t613) = true := c46
             (try (have c46b1 : decide (t609 = t613) = true := by simpa using c46))
             (try (have c46b2 : (t609 == t613) = true := by simpa using c46))
             clear c46
             by_cases c47 : t609 = true
             ·
              subst c47
              have H1 : ((impl_InstrKind.f kj26 t606 t603).bind fun t614 => (if t614 = t604 then (if (t606.length : Int) = (wrap64 ((t600.length : Int) + 1)) then ((impl_InstrsOk.f kj26 t606).bind fun t615 => (some t615)) else (none)) else (none))) = some r := by rw [if_pos rfl] at H; exact H
              clear H
              have H := H1
              clear H1
              replace H := Option.bind_eq_some_iff.mp H
              obtain ⟨t614, A480, H⟩ := H
              replace H : (if t614 = t604 then (if (t606.length : Int) = (wrap64 ((t600.length : Int) + 1)) then ((impl_InstrsOk.f kj26 t606).bind fun t615 => (some t615)) else (none)) else (none)) = some r := H
              have A48 := Aside0.mk A480
              clear A480
              by_cases c49 : t614 = t604
              ·
               rw [if_pos c49] at H
               have c49b0 : (t614 == t604) = true := beq_iff_eq.mpr c49
               have c49b1 : (t614 != t604) = false := bne_eq_false_iff_eq.mpr c49
               clear c49
               by_cases c50 : (t606.length : Int) = (wrap64 ((t600.length : Int) + 1))
               ·
                rw [if_pos c50] at H
                have c50b0 : ((t606.length : Int) == (wrap64 ((t600.length : Int) + 1))) = true := beq_iff_eq.mpr c50
                have c50b1 : ((t606.length : Int) != (wrap64 ((t600.length : Int) + 1))) = false := bne_eq_false_iff_eq.mpr c50
                clear c50
                replace H := Option.bind_eq_some_iff.mp H
                obtain ⟨t615, A510, H⟩ := H
                replace H : (some t615) = some r := H
                have A51 := Aside0.mk A510
                clear A510
                obtain rfl := Option.some.inj H
                try go_wp2_with (first | ((with_reducible refine gate_callee (f := 36) rfl ?_); refine goesL_ (some 98) rfl rfl Try.func36 (by kernel_rfl) rfl #[.slice A0 l0.length c0] rfl (by (try simp only [List.map_toArray, List.map_cons, List.map_nil]); first | done | rfl | (simp only [List.length_drop, List.length_take]; rfl)) ?_; (with_reducible refine (spec_DrawInstrPut.calls kj26 _ _ l0 t600 t603 t604 _ ?side1 ?side2 A43.out).mono ?_); (case side1 => repeat (first | exact (Kd.C_below HR0.out HB.out) | (with_reducible refine Kd.C_alloc ?_ _) | (with_reducible refine Kd.C_drewN ?_ _) | (with_reducible refine Kd.C_drew ?_))); (case side2 => exact HC0.out); rintro e w52 ⟨v601, rfl, ho0, hb⟩; refine ⟨_, rfl, ?_⟩; have n0_ := Aside0.mk (Kd.R_lower ho0 (below_size (by repeat (first | (with_reducible first | exact HB.out | apply below_alloc | apply pw_below_drewN | apply below_drew1 | refine below_set ?_ GE583.out) | exact HB.out)))); have n1_ := Aside0.mk (blk_below (g := gb583) (o := .cells #[.int .i64 t581, .int .i64 t582] 44 (0, 0)) (by (with_reducible repeat (first | refine blk_drewN ?_ _ | refine blk_drew ?_ | refine blk_alloc ?_ _)); exact BK583.out) hb); have n2_ := Aside0.mk (below_step (by repeat (first | (with_reducible first | exact HB.out | apply below_alloc | apply pw_below_drewN | apply below_drew1 | refine below_set ?_ GE583.out) | exact HB.out)) hb); clear BK583; clear HB; have HO602 := n0_; have BK583 := n1_; have HB := n2_; clear n0_ n1_ n2_; (try clear hb); (try clear hb2); (try clear hk); (try clear hi); (try clear ho0)) | ((with_reducible refine gate_dst (N := 12) rfl ?_); (try (refine gate_guard (by rfl) ?_; dsimp only)); refine box_event ?hg (N := 12) ?hd (cs := #[.int .i64 0, .int .i64 0]) (t := 50) ?hr ?_; (case hd => rfl); (case hg => rfl); (case hr => first | (go_simp; done) | (go_simp; rfl)); intro gb605 hg w53 hbox hb; have n0_ := Aside0.mk (Kd.R_below (Kd.R_elderB (by (with_reducible repeat (first | apply Kd.R_alloc | apply Kd.R_drewN | apply Kd.R_drew)); exact HO602.out) gb605 (Nat.le_of_eq hg.symm)) hb); have n1_ := Aside0.mk (blk_below (g := gb583) (o := .cells #[.int .i64 t581, .int .i64 t582] 44 (0, 0)) (by (with_reducible repeat (first | refine blk_drewN ?_ _ | refine blk_drew ?_ | refine blk_alloc ?_ _)); exact BK583.out) hb); have n2_ := Aside0.mk (below_step (by repeat (first | (with_reducible first | exact HB.out | apply below_alloc | apply pw_below_drewN | apply below_drew1 | refine below_set ?_ GE583.out) | exact HB.out)) hb); have n3_ := Aside0.mk (hbox); have n4_ := Aside0.mk ((by rw [hg]; exact (below_size (by repeat (first | (with_reducible first | exact HB.out | apply below_alloc | apply pw_below_drewN | apply below_drew1 | refine below_set ?_ GE583.out) | exact HB.out))) : w.heap.size ≤ gb605)); have n5_ := Aside0.mk ((by rw [hg]; exact (below_size (by repeat (first | (with_reducible first | exact HB.out | apply below_alloc | apply pw_below_drewN | apply below_drew1 | refine below_set ?_ GE583.out) | exact HB.out))) : w.heap.size ≤ gb605)); have n6_ := Aside0.mk ((by rw [hg]; exact Nat.ne_of_lt (blk_lt (g := gb583) (o := .cells #[.int .i64 t581, .int .i64 t582] 44 (0, 0)) (by (with_reducible repeat (first | refine blk_drewN ?_ _ | refine blk_drew ?_ | refine blk_alloc ?_ _)); exact BK583.out)) : gb583 ≠ gb605)); have n7_ := Aside0.mk ((by rw [hg]; exact Nat.ne_of_gt (blk_lt (g := gb583) (o := .cells #[.int .i64 t581, .int .i64 t582] 44 (0, 0)) (by (with_reducible repeat (first | refine blk_drewN ?_ _ | refine blk_drew ?_ | refine blk_alloc ?_ _)); exact BK583.out)) : gb605 ≠ gb583)); clear HO602; clear BK583; clear HB; have HO602 := n0_; have BK583 := n1_; have HB := n2_; have BK605 := n3_; have GW605 := n4_; have GE605 := n5_; have NB583_605 := n6_; have NB605_583 := n7_; clear n0_ n1_ n2_ n3_ n4_ n5_ n6_ n7_; clear hb hbox hg; have hnb54 := NB605_583.out; have hnc54 := NB583_605.out; have hcz55_0 : w53.cell? ⟨gb605, 0, none⟩ = some (.int .i64 0) := (blk_cell BK605.out 0).trans rfl; have hcz55_1 : w53.cell? ⟨gb605, 1, none⟩ = some (.int .i64 0) := (blk_cell BK605.out 1).trans rfl; have hfz55_0 := blk_frozen BK605.out 0; have hfz55_1 := blk_frozen BK605.out 1; obtain ⟨Ao56, co56, eo56⟩ := Kd.R_slice HO602.out; subst eo56) | ((with_reducible refine gate_callee (f := 31) rfl ?_); refine goesL_ (some 104) rfl rfl Try.func31 (by kernel_rfl) rfl #[.slice Ao56 t600.length co56, .agg #[.int .i64 t603, .int .i64 t604]] rfl (by (try simp only [List.map_toArray, List.map_cons, List.map_nil]); first | done | rfl | (simp only [List.length_drop, List.length_take]; rfl)) ?_; (with_reducible refine (impl_InstrPut.calls kj26 _ _ t600 t603 t604 t606 true _ ?side1 ?side2 A44.out).mono ?_); (case side1 => refine (Kd.R_reads' (e := 50) (base := w.heap.size) (ok := fun k_ => (True ∧ k_ ≠ gb605)) (n := t600.length) (c := co56) ?_).2.2; exact (by (with_reducible repeat (first | apply Kd.R_alloc | apply Kd.R_drewN | apply Kd.R_drew)); exact (Kd.R_mono (Kd.R_far (p := ⟨gb605, 1, none⟩) (Kd.R_far (p := ⟨gb605, 0, none⟩) (Kd.R_mono HO602.out (fun k_ hk => (⟨hk, hk.2⟩ : _ ∧ k_ ≠ gb605))) (fun _ hk => hk.2) (.int .i64 t603)) (fun _ hk => hk.2) (.int .i64 t604)) (fun _ h_ => h_.1)))); (case side2 => exact (Kd.R_reads' HO602.out).2.1); rintro e w57 ⟨v607, rfl, ho0, hb⟩; refine ⟨_, rfl, ?_⟩; have n0_ := Aside0.mk (Kd.R_elder' (by (with_reducible repeat (first | apply Kd.R_alloc | apply Kd.R_drewN | apply Kd.R_drew)); exact (Kd.R_mono (Kd.R_far (p := ⟨gb605, 1, none⟩) (Kd.R_far (p := ⟨gb605, 0, none⟩) (Kd.R_mono HO602.out (fun k_ hk => (⟨hk, hk.2⟩ : _ ∧ k_ ≠ gb605))) (fun _ hk => hk.2) (.int .i64 t603)) (fun _ hk => hk.2) (.int .i64 t604)) (fun _ h_ => h_.1))) (Kd.R_base ho0) hb); have n1_ := Aside0.mk (Kd.R_lower (Kd.R_newB (Kd.R_new' ho0 (Kd.R_lt (by (with_reducible repeat (first | apply Kd.R_alloc | apply Kd.R_drewN | apply Kd.R_drew)); exact (Kd.R_mono (Kd.R_far (p := ⟨gb605, 1, none⟩) (Kd.R_far (p := ⟨gb605, 0, none⟩) (Kd.R_mono HO602.out (fun k_ hk => (⟨hk, hk.2⟩ : _ ∧ k_ ≠ gb605))) (fun _ hk => hk.2) (.int .i64 t603)) (fun _ hk => hk.2) (.int .i64 t604)) (fun _ h_ => h_.1))))) (g := gb605) (o := .cells #[.int .i64 t603, .int .i64 t604] 50 (0, 0)) (by (with_reducible repeat (first | refine blk_drewN ?_ _ | refine blk_drew ?_ | refine blk_alloc ?_ _)); refine blk_put (cs := #[.int .i64 t603, .int .i64 0]) ?_ 1 _ rfl; (with_reducible repeat (first | refine blk_drewN ?_ _ | refine blk_drew ?_ | refine blk_alloc ?_ _)); refine blk_put (cs := #[.int .i64 0, .int .i64 0]) ?_ 0 _ rfl; (with_reducible repeat (first | refine blk_drewN ?_ _ | refine blk_drew ?_ | refine blk_alloc ?_ _)); exact BK605.out)) (below_size (by repeat (first | (with_reducible first | exact HB.out | apply below_alloc | apply pw_below_drewN | apply below_drew1 | refine below_set ?_ GE583.out | refine below_set ?_ GE605.out) | exact HB.out)))); have n2_ := Aside0.mk (blk_below (g := gb583) (o := .cells #[.int .i64 t581, .int .i64 t582] 44 (0, 0)) (by (with_reducible repeat (first | refine blk_drewN ?_ _ | refine blk_drew ?_ | refine blk_alloc ?_ _)); refine blk_far ?_ NB583_605.out _; (with_reducible repeat (first | refine blk_drewN ?_ _ | refine blk_drew ?_ | refine blk_alloc ?_ _)); refine blk_far ?_ NB583_605.out _; (with_reducible repeat (first | refine blk_drewN ?_ _ | refine blk_drew ?_ | refine blk_alloc ?_ _)); exact BK583.out) hb); have n3_ := Aside0.mk (blk_below (g := gb605) (o := .cells #[.int .i64 t603, .int .i64 t604] 50 (0, 0)) (by (with_reducible repeat (first | refine blk_drewN ?_ _ | refine blk_drew ?_ | refine blk_alloc ?_ _)); refine blk_put (cs := #[.int .i64 t603, .int .i64 0]) ?_ 1 _ rfl; (with_reducible repeat (first | refine blk_drewN ?_ _ | refine blk_drew ?_ | refine blk_alloc ?_ _)); refine blk_put (cs := #[.int .i64 0, .int .i64 0]) ?_ 0 _ rfl; (with_reducible repeat (first | refine blk_drewN ?_ _ | refine blk_drew ?_ | refine blk_alloc ?_ _)); exact BK605.out) hb); have n4_ := Aside0.mk (below_step (by repeat (first | (with_reducible first | exact HB.out | apply below_alloc | apply pw_below_drewN | apply below_drew1 | refine below_set ?_ GE583.out | refine below_set ?_ GE605.out) | exact HB.out)) hb); clear HO602; clear BK583; clear BK605; clear HB; have HO602 := n0_; have HO608 := n1_; have BK583 := n2_; have BK605 := n3_; have HB := n4_; clear n0_ n1_ n2_ n3_ n4_; (try clear hb); (try clear hb2); (try clear hk); (try clear hi); (try clear ho0); have hcz58_0 : w57.cell? ⟨gb605, 0, none⟩ = some (.int .i64 t603) := (blk_cell BK605.out 0).trans rfl; have hcz58_1 : w57.cell? ⟨gb605, 1, none⟩ = some (.int .i64 t604) := (blk_cell BK605.out 1).trans rfl; have hfz58_0 := blk_frozen BK605.out 0; have hfz58_1 := blk_frozen BK605.out 1) | ((with_reducible refine gate_callee (f := 29) rfl ?_); refine goesL_ (some 110) rfl rfl Try.func29 (by kernel_rfl) rfl #[.slice Ao56 t600.length co56, .agg #[.int .i64 t603, .int .i64 t604]] rfl (by (try simp only [List.map_toArray, List.map_cons, List.map_nil]); first | done | rfl | (simp only [List.length_drop, List.length_take]; rfl)) ?_; (with_reducible refine (spec_InstrPut.calls kj26 _ _ t600 t603 t604 t610 t613 _ ?side1 ?side2 A45.out).mono ?_); (case side1 => repeat (first | exact (Kd.R_reads' HO602.out).2.2 | (with_reducible refine Kd.C_alloc ?_ _) | (with_reducible refine Kd.C_drewN ?_ _) | (with_reducible refine Kd.C_drew ?_))); (case side2 => exact (Kd.R_reads' HO602.out).2.1); rintro e w59 ⟨v611, rfl, ho0, hb⟩; refine ⟨_, rfl, ?_⟩; have n0_ := Aside0.mk (Kd.R_elder' (by (with_reducible repeat (first | apply Kd.R_alloc | apply Kd.R_drewN | apply Kd.R_drew)); exact HO602.out) (Kd.R_base ho0) hb); have n1_ := Aside0.mk (Kd.R_elder' (by (with_reducible repeat (first | apply Kd.R_alloc | apply Kd.R_drewN | apply Kd.R_drew)); exact HO608.out) (Kd.R_base ho0) hb); have n2_ := Aside0.mk (Kd.R_lower (Kd.R_newB (Kd.R_new' (Kd.R_new' ho0 (Kd.R_lt (by (with_reducible repeat (first | apply Kd.R_alloc | apply Kd.R_drewN | apply Kd.R_drew)); exact HO602.out))) (Kd.R_lt (by (with_reducible repeat (first | apply Kd.R_alloc | apply Kd.R_drewN | apply Kd.R_drew)); exact HO608.out))) (g := gb605) (o := .cells #[.int .i64 t603, .int .i64 t604] 50 (0, 0)) (by (with_reducible repeat (first | refine blk_drewN ?_ _ | refine blk_drew ?_ | refine blk_alloc ?_ _)); exact BK605.out)) (below_size (by repeat (first | (with_reducible first | exact HB.out | apply below_alloc | apply pw_below_drewN | apply below_drew1 | refine below_set ?_ GE583.out | refine below_set ?_ GE605.out) | exact HB.out)))); have n3_ := Aside0.mk (blk_below (g := gb583) (o := .cells #[.int .i64 t581, .int .i64 t582] 44 (0, 0)) (by (with_reducible repeat (first | refine blk_drewN ?_ _ | refine blk_drew ?_ | refine blk_alloc ?_ _)); exact BK583.out) hb); have n4_ := Aside0.mk (blk_below (g := gb605) (o := .cells #[.int .i64 t603, .int .i64 t604] 50 (0, 0)) (by (with_reducible repeat (first | refine blk_drewN ?_ _ | refine blk_drew ?_ | refine blk_alloc ?_ _)); exact BK605.out) hb); have n5_ := Aside0.mk (below_step (by repeat (first | (with_reducible first | exact HB.out | apply below_alloc | apply pw_below_drewN | apply below_drew1 | refine below_set ?_ GE583.out | refine below_set ?_ GE605.out) | exact HB.out)) hb); clear HO602; clear HO608; clear BK583; clear BK605; clear HB; have HO602 := n0_; have HO608 := n1_; have HO612 := n2_; have BK583 := n3_; have BK605 := n4_; have HB := n5_; clear n0_ n1_ n2_ n3_ n4_ n5_; (try clear hb); (try clear hb2); (try clear hk); (try clear hi); (try clear ho0)))
                have n0_ := Aside0.mk (Kd.R_drew HO602.out)
                have n1_ := Aside0.mk (Kd.R_drew HO608.out)
                have n2_ := Aside0.mk (Kd.R_drew HO612.out)
                have n3_ := Aside0.mk (blk_drew BK583.out)
                have n4_ := Aside0.mk (blk_drew BK605.out)
                have n5_ := Aside0.mk (below_drew1 HB.out)
                clear HO602
                clear HO608
                clear HO612
                clear BK583
                clear BK605
                clear HB
                have HO602 := n0_
                have HO608 := n1_
                have HO612 := n2_
                have BK583 := n3_
                have BK605 := n4_
                have HB := n5_
                clear n0_ n1_ n2_ n3_ n4_ n5_
                obtain ⟨Ao61, co61, eo61⟩ := Kd.R_slice HO608.out
                (first | subst eo61 | (injection eo61 with f1_ f2_ f3_; have f4_ := f1_.symm; have f5_ := f3_.symm; clear f1_ f2_ f3_; subst f4_; subst f5_))
                refine start_ (n := 29) (S := fun w' => w'.cell? ⟨gb605, 0, none⟩ = some (.int .i64 t603) ∧ w'.cell? ⟨gb605, 1, none⟩ = some (.int .i64 t604)) (ds := []) #[false, false, false, false, false, false, false, false, false, false, false, false, false, false, false, false, false, false, false, false, false, false, false, false, false, false, false, false, false] (by kernel_rfl) rfl rfl ⟨(blk_cell BK605.out 0).trans rfl, (blk_cell BK605.out 1).trans rfl⟩ (fun hHeld => ?_); refine with_tabW laws_FnChart.tab23 laws_FnChart.bits23 (fun HT_ HW_ => ?_)
                generalize w59.drew = w60 at HO602 HO608 HO612 BK583 BK605 HB hHeld ⊢
                refine pure_ (i := 0) (N := some 113) (v := ?_) (a' := ?_) #[true, false, false, false, false, false, false, false, false, false, false, false, false, false, false, false, false, false, false, false, false, false, false, false, false, false, false, false, false] rfl rfl (any_of HT_.out (by kernel_rfl)) (fun _ _ _ h => h) (Or.inl ⟨by rfl, ?_⟩) ?_ ?_
                rotate_left
                ·
                 intro w'
                 go_simp
                 with_reducible rfl
                rotate_left
                ·
                 simp only [Act.put, List.setIfInBounds_toArray, List.set_cons_zero, List.set_cons_succ, i64_w, i32_w]
                 rfl
                refine pure_ (i := 1) (N := some 114) (v := ?_) (a' := ?_) #[true, true, false, false, false, false, false, false, false, false, false, false, false, false, false, false, false, false, false, false, false, false, false, false, false, false, false, false, false] rfl rfl (any_of HT_.out (by kernel_rfl)) (fun _ _ _ h => h) (Or.inl ⟨by rfl, ?_⟩) ?_ ?_
                rotate_left
                ·
                 intro w'
                 go_simp
                 with_reducible rfl
                rotate_left
                ·
                 simp only [Act.put, List.setIfInBounds_toArray, List.set_cons_zero, List.set_cons_succ, i64_w, i32_w]
                 rfl
                refine pure_ (i := 2) (N := some 115) (v := ?_) (a' := ?_) #[true, true, true, false, false, false, false, false, false, false, false, false, false, false, false, false, false, false, false, false, false, false, false, false, false, false, false, false, false] rfl rfl (any_of HT_.out (by kernel_rfl)) (fun _ _ _ h => h) (Or.inl ⟨by rfl, ?_⟩) ?_ ?_
                rotate_left
                ·
                 intro w'
                 go_simp
                 with_reducible rfl
                rotate_left
                ·
                 simp only [Act.put, List.setIfInBounds_toArray, List.set_cons_zero, List.set_cons_succ, i64_w, i32_w]
                 rfl
                refine pure_ (i := 3) (N := some 116) (v := ?_) (a' := ?_) #[true, true, true, true, false, false, false, false, false, false, false, false, false, false, false, false, false, false, false, false, false, false, false, false, false, false, false, false, false] rfl rfl (any_of HT_.out (by kernel_rfl)) (fun _ _ _ h => h) (Or.inl ⟨by rfl, ?_⟩) ?_ ?_
                rotate_left
                ·
                 intro w'
                 go_simp
                 with_reducible rfl
                rotate_left
                ·
                 simp only [Act.put, List.setIfInBounds_toArray, List.set_cons_zero, List.set_cons_succ, i64_w, i32_w]
                 rfl
                refine pure_ (i := 4) (N := some 117) (v := ?_) (a' := ?_) #[true, true, true, true, true, false, false, false, false, false, false, false, false, false, false, false, false, false, false, false, false, false, false, false, false, false, false, false, false] rfl rfl (any_of HT_.out (by kernel_rfl)) (fun _ _ _ h => h) (Or.inl ⟨by rfl, ?_⟩) ?_ ?_
                rotate_left
                ·
                 intro w'
                 go_simp
                 with_reducible rfl
                rotate_left
                ·
                 simp only [Act.put, List.setIfInBounds_toArray, List.set_cons_zero, List.set_cons_succ, i64_w, i32_w]
                 rfl
                refine pure_ (i := 5) (N := some 118) (v := ?_) (a' := ?_) #[true, true, true, true, true, true, false, false, false, false, false, false, false, false, false, false, false, false, false, false, false, false, false, false, false, false, false, false, false] rfl rfl (any_of HT_.out (by kernel_rfl)) (fun _ _ _ h => h) (Or.inl ⟨by rfl, ?_⟩) ?_ ?_
                rotate_left
                ·
                 intro w'
                 go_simp
                 with_reducible rfl
                rotate_left
                ·
                 simp only [Act.put, List.setIfInBounds_toArray, List.set_cons_zero, List.set_cons_succ, i64_w, i32_w]
                 rfl
                refine pure_ (i := 6) (N := some 119) (v := ?_) (a' := ?_) #[true, true, true, true, true, true, true, false, false, false, false, false, false, false, false, false, false, false, false, false, false, false, false, false, false, false, false, false, false] rfl rfl (any_of HT_.out (by kernel_rfl)) (fun _ _ _ h => h) (Or.inl ⟨by rfl, ?_⟩) ?_ ?_
                rotate_left
                ·
                 intro w'
                 go_simp
                 with_reducible rfl
                rotate_left
                ·
                 simp only [Act.put, List.setIfInBounds_toArray, List.set_cons_zero, List.set_cons_succ, i64_w, i32_w]
                 rfl
                refine pure_ (i := 7) (N := some 120) (v := ?_) (a' := ?_) #[true, true, true, true, true, true, true, true, false, false, false, false, false, false, false, false, false, false, false, false, false, false, false, false, false, false, false, false, false] rfl rfl (any_of HT_.out (by kernel_rfl)) (fun _ _ _ h => h) (Or.inl ⟨by rfl, ?_⟩) ?_ ?_
                rotate_left
                ·
                 intro w'
                 go_simp
                 with_reducible rfl
                rotate_left
                ·
                 simp only [Act.put, List.setIfInBounds_toArray, List.set_cons_zero, List.set_cons_succ, i64_w, i32_w]
                 rfl
                refine pure_ (i := 8) (N := some 121) (v := ?_) (a' := ?_) #[true, true, true, true, true, true, true, true, true, false, false, false, false, false, false, false, false, false, false, false, false, false, false, false, false, false, false, false, false] rfl rfl (any_of HT_.out (by kernel_rfl)) (fun _ _ _ h => h) (Or.inl ⟨by rfl, ?_⟩) ?_ ?_
                rotate_left
                ·
                 intro w'
                 go_simp
                 with_reducible rfl
                rotate_left
                ·
                 simp only [Act.put, List.setIfInBounds_toArray, List.set_cons_zero, List.set_cons_succ, i64_w, i32_w]
                 rfl
                refine pure_ (i := 11) (N := some 124) (v := ?_) (a' := ?_) #[true, true, true, true, true, true, true, true, true, false, false, true, false, false, false, false, false, false, false, false, false, false, false, false, false, false, false, false, false] rfl rfl (any_of HT_.out (by kernel_rfl)) (fun _ _ _ h => h) (Or.inl ⟨by rfl, ?_⟩) ?_ ?_
                rotate_left
                ·
                 intro w'
                 go_simp
                 with_reducible rfl
                rotate_left
                ·
                 simp only [Act.put, List.setIfInBounds_toArray, List.set_cons_zero, List.set_cons_succ, i64_w, i32_w]
                 rfl
                refine take_ (i := 9) (N := some 122) (v := ?_) (a' := ?_) #[true, true, true, true, true, true, true, true, true, true, false, true, false, false, false, false, false, false, false, false, false, false, false, false, false, false, false, false, false] rfl rfl (take_ofW HT_.out HW_.out (by kernel_rfl)) (fun _ _ _ h => h) (Or.inl ⟨by rfl, ?_⟩) hHeld ?_ ?_
                rotate_left
                ·
                 rintro w' ⟨s0, s1⟩
                 go_simp
                 with_reducible rfl
                rotate_left
                ·
                 simp only [Act.put, List.setIfInBounds_toArray, List.set_cons_zero, List.set_cons_succ, i64_w, i32_w]
                 rfl
                refine take_ (i := 12) (N := some 125) (v := ?_) (a' := ?_) #[true, true, true, true, true, true, true, true, true, true, false, true, true, false, false, false, false, false, false, false, false, false, false, false, false, false, false, false, false] rfl rfl (take_ofW HT_.out HW_.out (by kernel_rfl)) (fun _ _ _ h => h) (Or.inl ⟨by rfl, ?_⟩) hHeld ?_ ?_
                rotate_left
                ·
                 rintro w' ⟨s0, s1⟩
                 go_simp
                 with_reducible rfl
                rotate_left
                ·
                 simp only [Act.put, List.setIfInBounds_toArray, List.set_cons_zero, List.set_cons_succ, i64_w, i32_w]
                 rfl
                refine one_ (i := 10) (N := some 123) #[true, true, true, true, true, true, true, true, true, true, true, true, true, false, false, false, false, false, false, false, false, false, false, false, false, false, false, false, false] rfl rfl (one_of HT_.out (by kernel_rfl)) (by decide) (fun K hK => ?_)
                refine goes_ Try.func23 (by kernel_rfl) rfl #[.slice Ao61 t606.length co61, .int .i64 t603] (by rfl) rfl rfl (by (try simp only [List.map_toArray, List.map_cons, List.map_nil]); first | done | rfl | (simp only [List.length_drop, List.length_take]; rfl)) ?_
                with_reducible refine (impl_InstrKind.calls kj26 _ _ t606 t603 t614 _ ?side1 ?side2 A48.out).mono ?_
                (case side1 => repeat (first | exact (Kd.R_reads' HO608.out).2.2 | (with_reducible refine Kd.C_alloc ?_ _) | (with_reducible refine Kd.C_drewN ?_ _) | (with_reducible refine Kd.C_drew ?_)))
                (case side2 => exact (Kd.R_reads' HO608.out).2.1)
                rintro e w62 ⟨rfl, hb⟩
                refine ⟨_, rfl, ?_⟩
                have n0_ := Aside0.mk (Kd.R_below (by (with_reducible repeat (first | apply Kd.R_alloc | apply Kd.R_drewN | apply Kd.R_drew)); exact HO602.out) hb)
                have n1_ := Aside0.mk (Kd.R_below (by (with_reducible repeat (first | apply Kd.R_alloc | apply Kd.R_drewN | apply Kd.R_drew)); exact HO608.out) hb)
                have n2_ := Aside0.mk (Kd.R_below (by (with_reducible repeat (first | apply Kd.R_alloc | apply Kd.R_drewN | apply Kd.R_drew)); exact HO612.out) hb)
                have n3_ := Aside0.mk (blk_below (g := gb583) (o := .cells #[.int .i64 t581, .int .i64 t582] 44 (0, 0)) (by (with_reducible repeat (first | refine blk_drewN ?_ _ | refine blk_drew ?_ | refine blk_alloc ?_ _)); exact BK583.out) hb)
                have n4_ := Aside0.mk (blk_below (g := gb605) (o := .cells #[.int .i64 t603, .int .i64 t604] 50 (0, 0)) (by (with_reducible repeat (first | refine blk_drewN ?_ _ | refine blk_drew ?_ | refine blk_alloc ?_ _)); exact BK605.out) hb)
                have n5_ := Aside0.mk (below_step (by repeat (first | (with_reducible first | exact HB.out | apply below_alloc | apply pw_below_drewN | apply below_drew1 | refine below_set ?_ GE583.out | refine below_set ?_ GE605.out) | exact HB.out)) hb)
                clear HO602
                clear HO608
                clear HO612
                clear BK583
                clear BK605
                clear HB
                have HO602 := n0_
                have HO608 := n1_
                have HO612 := n2_
                have BK583 := n3_
                have BK605 := n4_
                have HB := n5_
                clear n0_ n1_ n2_ n3_ n4_ n5_
                (try clear hb)
                (try clear hb2)
                (try clear hk)
                (try clear hi)
                refine hK.out _ _ ⟨(blk_cell BK605.out 0).trans rfl, (blk_cell BK605.out 1).trans rfl⟩ (fun hHeld => ?_)
                clear hK K
                refine norm_ (a' := ?_) ?_ ?_
                rotate_left
                ·
                 show Act.put _ (some 123) _ = _
                 simp only [Act.put, List.setIfInBounds_toArray, List.set_cons_zero, List.set_cons_succ, i64_w, i32_w]
                 rfl
                refine pure_ (i := 13) (N := some 126) (v := ?_) (a' := ?_) #[true, true, true, true, true, true, true, true, true, true, true, true, true, true, false, false, false, false, false, false, false, false, false, false, false, false, false, false, false] rfl rfl (any_of HT_.out (by kernel_rfl)) (fun _ _ _ h => h) (Or.inl ⟨by rfl, ?_⟩) ?_ ?_
                rotate_left
                ·
                 intro w'
                 go_simp
                 with_reducible rfl
                rotate_left
                ·
                 simp only [Act.put, List.setIfInBounds_toArray, List.set_cons_zero, List.set_cons_succ, i64_w, i32_w]
                 rfl
                refine pure_ (i := 14) (N := some 127) (v := ?_) (a' := ?_) #[true, true, true, true, true, true, true, true, true, true, true, true, true, true, true, false, false, false, false, false, false, false, false, false, false, false, false, false, false] rfl rfl (any_of HT_.out (by kernel_rfl)) (fun _ _ _ h => h) (Or.inl ⟨by rfl, ?_⟩) ?_ ?_
                rotate_left
                ·
                 intro w'
                 go_simp
                 with_reducible rfl
                rotate_left
                ·
                 simp only [Act.put, List.setIfInBounds_toArray, List.set_cons_zero, List.set_cons_succ, i64_w, i32_w]
                 rfl
                refine pure_ (i := 15) (N := some 128) (v := ?_) (a' := ?_) #[true, true, true, true, true, true, true, true, true, true, true, true, true, true, true, true, false, false, false, false, false, false, false, false, false, false, false, false, false] rfl rfl (any_of HT_.out (by kernel_rfl)) (fun _ _ _ h => h) (Or.inl ⟨by rfl, ?_⟩) ?_ ?_
                rotate_left
                ·
                 intro w'
                 go_simp
                 with_reducible rfl
                rotate_left
                ·
                 simp only [Act.put, List.setIfInBounds_toArray, List.set_cons_zero, List.set_cons_succ, i64_w, i32_w]
                 rfl
                refine pure_ (i := 16) (N := some 129) (v := ?_) (a' := ?_) #[true, true, true, true, true, true, true, true, true, true, true, true, true, true, true, true, true, false, false, false, false, false, false, false, false, false, false, false, false] rfl rfl (any_of HT_.out (by kernel_rfl)) (fun _ _ _ h => h) (Or.inl ⟨by rfl, ?_⟩) ?_ ?_
                rotate_left
                ·
                 intro w'
                 go_simp
                 with_reducible rfl
                rotate_left
                ·
                 simp only [Act.put, List.setIfInBounds_toArray, List.set_cons_zero, List.set_cons_succ, i64_w, i32_w]
                 rfl
                refine pure_ (i := 17) (N := some 130) (v := ?_) (a' := ?_) #[true, true, true, true, true, true, true, true, true, true, true, true, true, true, true, true, true, true, false, false, false, false, false, false, false, false, false, false, false] rfl rfl (any_of HT_.out (by kernel_rfl)) (fun _ _ _ h => h) (Or.inl ⟨by rfl, ?_⟩) ?_ ?_
                rotate_left
                ·
                 intro w'
                 go_simp
                 with_reducible rfl
                rotate_left
                ·
                 simp only [Act.put, List.setIfInBounds_toArray, List.set_cons_zero, List.set_cons_succ, i64_w, i32_w]
                 rfl
                refine pure_ (i := 18) (N := some 131) (v := ?_) (a' := ?_) #[true, true, true, true, true, true, true, true, true, true, true, true, true, true, true, true, true, true, true, false, false, false, false, false, false, false, false, false, false] rfl rfl (any_of HT_.out (by kernel_rfl)) (fun _ _ _ h => h) (Or.inl ⟨by rfl, ?_⟩) ?_ ?_
                rotate_left
                ·
                 intro w'
                 go_simp
                 with_reducible rfl
                rotate_left
                ·
                 simp only [Act.put, List.setIfInBounds_toArray, List.set_cons_zero, List.set_cons_succ, i64_w, i32_w]
                 rfl
                refine pure_ (i := 19) (N := some 132) (v := ?_) (a' := ?_) #[true, true, true, true, true, true, true, true, true, true, true, true, true, true, true, true, true, true, true, true, false, false, false, false, false, false, false, false, false] rfl rfl (any_of HT_.out (by kernel_rfl)) (fun _ _ _ h => h) (Or.inl ⟨by rfl, ?_⟩) ?_ ?_
                rotate_left
                ·
                 intro w'
                 go_simp
                 with_reducible rfl
                rotate_left
                ·
                 simp only [Act.put, List.setIfInBounds_toArray, List.set_cons_zero, List.set_cons_succ, i64_w, i32_w]
                 rfl
                refine pure_ (i := 20) (N := some 133) (v := ?_) (a' := ?_) #[true, true, true, true, true, true, true, true, true, true, true, true, true, true, true, true, true, true, true, true, true, false, false, false, false, false, false, false, false] rfl rfl (any_of HT_.out (by kernel_rfl)) (fun _ _ _ h => h) (Or.inl ⟨by rfl, ?_⟩) ?_ ?_
                rotate_left
                ·
                 intro w'
                 go_simp
                 with_reducible rfl
                rotate_left
                ·
                 simp only [Act.put, List.setIfInBounds_toArray, List.set_cons_zero, List.set_cons_succ, i64_w, i32_w]
                 rfl
                refine pure_ (i := 21) (N := some 134) (v := ?_) (a' := ?_) #[true, true, true, true, true, true, true, true, true, true, true, true, true, true, true, true, true, true, true, true, true, true, false, false, false, false, false, false, false] rfl rfl (any_of HT_.out (by kernel_rfl)) (fun _ _ _ h => h) (Or.inl ⟨by rfl, ?_⟩) ?_ ?_
                rotate_left
                ·
                 intro w'
                 go_simp
                 with_reducible rfl
                rotate_left
                ·
                 simp only [Act.put, List.setIfInBounds_toArray, List.set_cons_zero, List.set_cons_succ, i64_w, i32_w]
                 rfl
                refine pure_ (i := 22) (N := some 135) (v := ?_) (a' := ?_) #[true, true, true, true, true, true, true, true, true, true, true, true, true, true, true, true, true, true, true, true, true, true, true, false, false, false, false, false, false] rfl rfl (any_of HT_.out (by kernel_rfl)) (fun _ _ _ h => h) (Or.inl ⟨by rfl, ?_⟩) ?_ ?_
                rotate_left
                ·
                 intro w'
                 go_simp
                 with_reducible rfl
                rotate_left
                ·
                 simp only [Act.put, List.setIfInBounds_toArray, List.set_cons_zero, List.set_cons_succ, i64_w, i32_w]
                 rfl
                refine pure_ (i := 23) (N := some 136) (v := ?_) (a' := ?_) #[true, true, true, true, true, true, true, true, true, true, true, true, true, true, true, true, true, true, true, true, true, true, true, true, false, false, false, false, false] rfl rfl (any_of HT_.out (by kernel_rfl)) (fun _ _ _ h => h) (Or.inl ⟨by rfl, ?_⟩) ?_ ?_
                rotate_left
                ·
                 intro w'
                 go_simp
                 with_reducible rfl
                rotate_left
                ·
                 simp only [Act.put, List.setIfInBounds_toArray, List.set_cons_zero, List.set_cons_succ, i64_w, i32_w]
                 rfl
                refine one_ (i := 24) (N := some 137) #[true, true, true, true, true, true, true, true, true, true, true, true, true, true, true, true, true, true, true, true, true, true, true, true, true, false, false, false, false] rfl rfl (one_of HT_.out (by kernel_rfl)) (by decide) (fun K hK => ?_)
                refine goes_ Try.func18 (by kernel_rfl) rfl #[.slice Ao61 t606.length co61] (by rfl) rfl rfl (by (try simp only [List.map_toArray, List.map_cons, List.map_nil]); first | done | rfl | (simp only [List.length_drop, List.length_take]; rfl)) ?_
                with_reducible refine (impl_InstrsOk.calls kj26 _ _ t606 t615 _ ?side1 ?side2 A51.out).mono ?_
                (case side1 => repeat (first | exact (Kd.R_reads' HO608.out).2.2 | (with_reducible refine Kd.C_alloc ?_ _) | (with_reducible refine Kd.C_drewN ?_ _) | (with_reducible refine Kd.C_drew ?_)))
                (case side2 => exact (Kd.R_reads' HO608.out).2.1)
                rintro e w63 ⟨rfl, hb⟩
                refine ⟨_, rfl, ?_⟩
                have n0_ := Aside0.mk (Kd.R_below (by (with_reducible repeat (first | apply Kd.R_alloc | apply Kd.R_drewN | apply Kd.R_drew)); exact HO602.out) hb)
                have n1_ := Aside0.mk (Kd.R_below (by (with_reducible repeat (first | apply Kd.R_alloc | apply Kd.R_drewN | apply Kd.R_drew)); exact HO608.out) hb)
                have n2_ := Aside0.mk (Kd.R_below (by (with_reducible repeat (first | apply Kd.R_alloc | apply Kd.R_drewN | apply Kd.R_drew)); exact HO612.out) hb)
                have n3_ := Aside0.mk (blk_below (g := gb583) (o := .cells #[.int .i64 t581, .int .i64 t582] 44 (0, 0)) (by (with_reducible repeat (first | refine blk_drewN ?_ _ | refine blk_drew ?_ | refine blk_alloc ?_ _)); exact BK583.out) hb)
                have n4_ := Aside0.mk (blk_below (g := gb605) (o := .cells #[.int .i64 t603, .int .i64 t604] 50 (0, 0)) (by (with_reducible repeat (first | refine blk_drewN ?_ _ | refine blk_drew ?_ | refine blk_alloc ?_ _)); exact BK605.out) hb)
                have n5_ := Aside0.mk (below_step (by repeat (first | (with_reducible first | exact HB.out | apply below_alloc | apply pw_below_drewN | apply below_drew1 | refine below_set ?_ GE583.out | refine below_set ?_ GE605.out) | exact HB.out)) hb)
                clear HO602
                clear HO608
                clear HO612
                clear BK583
                clear BK605
                clear HB
                have HO602 := n0_
                have HO608 := n1_
                have HO612 := n2_
                have BK583 := n3_
                have BK605 := n4_
                have HB := n5_
                clear n0_ n1_ n2_ n3_ n4_ n5_
                (try clear hb)
                (try clear hb2)
                (try clear hk)
                (try clear hi)
                refine hK.out _ _ ⟨(blk_cell BK605.out 0).trans rfl, (blk_cell BK605.out 1).trans rfl⟩ (fun hHeld => ?_)
                clear hK K
                refine norm_ (a' := ?_) ?_ ?_
                rotate_left
                ·
                 show Act.put _ (some 137) _ = _
                 simp only [Act.put, List.setIfInBounds_toArray, List.set_cons_zero, List.set_cons_succ, i64_w, i32_w]
                 rfl
                refine pure_ (i := 25) (N := some 138) (v := ?_) (a' := ?_) #[true, true, true, true, true, true, true, true, true, true, true, true, true, true, true, true, true, true, true, true, true, true, true, true, true, true, false, false, false] rfl rfl (any_of HT_.out (by kernel_rfl)) (fun _ _ _ h => h) (Or.inl ⟨by rfl, ?_⟩) ?_ ?_
                rotate_left
                ·
                 intro w'
                 go_simp
                 with_reducible rfl
                rotate_left
                ·
                 simp only [Act.put, List.setIfInBounds_toArray, List.set_cons_zero, List.set_cons_succ, i64_w, i32_w]
                 rfl
                refine pure_ (i := 26) (N := some 139) (v := ?_) (a' := ?_) #[true, true, true, true, true, true, true, true, true, true, true, true, true, true, true, true, true, true, true, true, true, true, true, true, true, true, true, false, false] rfl rfl (any_of HT_.out (by kernel_rfl)) (fun _ _ _ h => h) (Or.inl ⟨by rfl, ?_⟩) ?_ ?_
                rotate_left
                ·
                 intro w'
                 go_simp
                 with_reducible rfl
                rotate_left
                ·
                 simp only [Act.put, List.setIfInBounds_toArray, List.set_cons_zero, List.set_cons_succ, i64_w, i32_w]
                 rfl
                refine pure_ (i := 27) (N := some 140) (v := ?_) (a' := ?_) #[true, true, true, true, true, true, true, true, true, true, true, true, true, true, true, true, true, true, true, true, true, true, true, true, true, true, true, true, false] rfl rfl (any_of HT_.out (by kernel_rfl)) (fun _ _ _ h => h) (Or.inl ⟨by rfl, ?_⟩) ?_ ?_
                rotate_left
                ·
                 intro w'
                 go_simp
                 with_reducible rfl
                rotate_left
                ·
                 simp only [Act.put, List.setIfInBounds_toArray, List.set_cons_zero, List.set_cons_succ, i64_w, i32_w]
                 rfl
                refine pure_ (i := 28) (N := some 2) (v := ?_) (a' := ?_) #[true, true, true, true, true, true, true, true, true, true, true, true, true, true, true, true, true, true, true, true, true, true, true, true, true, true, true, true, true] rfl rfl (any_of HT_.out (by kernel_rfl)) (fun _ _ _ h => h) (Or.inl ⟨by rfl, ?_⟩) ?_ ?_
                rotate_left
                ·
                 intro w'
                 go_simp
                 with_reducible rfl
                rotate_left
                ·
                 simp only [Act.put, List.setIfInBounds_toArray, List.set_cons_zero, List.set_cons_succ, i64_w, i32_w]
                 rfl
                refine done_ (done_of HT_.out (by kernel_rfl)) ?_
                try go_wp2
                go_ret
                exact ⟨by first | rfl | (simp [errW_none, errW_some] <;> rfl) | (simp [*, errW_none, errW_some] <;> rfl), by repeat (first | (with_reducible first | exact HB.out | apply below_alloc | apply pw_below_drewN | apply below_drew1 | refine below_set ?_ GE583.out | refine below_set ?_ GE605.out) | exact HB.out)⟩
               ·
                rw [if_neg c50] at H
                have c50b0 : ((t606.length : Int) == (wrap64 ((t600.length : Int) + 1))) = false := beq_eq_false_iff_ne.mpr c50
                have c50b1 : ((t606.length : Int) != (wrap64 ((t600.length : Int) + 1))) = true := bne_iff_ne.mpr c50
                exact absurd H (by simp)
              ·
               rw [if_neg c49] at H
               have c49b0 : (t614 == t604) = false := beq_eq_false_iff_ne.mpr c49
               have c49b1 : (t614 != t604) = true := bne_iff_ne.mpr c49
               exact absurd H (by simp)
             ·
              replace c47 := Bool.eq_false_iff.mpr c47
              subst c47
              have H1 : (some true) = some r := by rw [if_neg (show ¬ (false = true) by decide)] at H; exact H
              clear H
              have H := H1
              clear H1
              obtain rfl := Option.some.inj H
              try go_wp2_with (first | ((with_reducible refine gate_callee (f := 36) rfl ?_); refine goesL_ (some 98) rfl rfl Try.func36 (by kernel_rfl) rfl #[.slice A0 l0.length c0] rfl (by (try simp only [List.map_toArray, List.map_cons, List.map_nil]); first | done | rfl | (simp only [List.length_drop, List.length_take]; rfl)) ?_; (with_reducible refine (spec_DrawInstrPut.calls kj26 _ _ l0 t600 t603 t604 _ ?side1 ?side2 A43.out).mono ?_); (case side1 => repeat (first | exact (Kd.C_below HR0.out HB.out) | (with_reducible refine Kd.C_alloc ?_ _) | (with_reducible refine Kd.C_drewN ?_ _) | (with_reducible refine Kd.C_drew ?_))); (case side2 => exact HC0.out); rintro e w64 ⟨v601, rfl, ho0, hb⟩; refine ⟨_, rfl, ?_⟩; have n0_ := Aside0.mk (Kd.R_lower ho0 (below_size (by repeat (first | (with_reducible first | exact HB.out | apply below_alloc | apply pw_below_drewN | apply below_drew1 | refine below_set ?_ GE583.out) | exact HB.out)))); have n1_ := Aside0.mk (blk_below (g := gb583) (o := .cells #[.int .i64 t581, .int .i64 t582] 44 (0, 0)) (by (with_reducible repeat (first | refine blk_drewN ?_ _ | refine blk_drew ?_ | refine blk_alloc ?_ _)); exact BK583.out) hb); have n2_ := Aside0.mk (below_step (by repeat (first | (with_reducible first | exact HB.out | apply below_alloc | apply pw_below_drewN | apply below_drew1 | refine below_set ?_ GE583.out) | exact HB.out)) hb); clear BK583; clear HB; have HO602 := n0_; have BK583 := n1_; have HB := n2_; clear n0_ n1_ n2_; (try clear hb); (try clear hb2); (try clear hk); (try clear hi); (try clear ho0)) | ((with_reducible refine gate_dst (N := 12) rfl ?_); (try (refine gate_guard (by rfl) ?_; dsimp only)); refine box_event ?hg (N := 12) ?hd (cs := #[.int .i64 0, .int .i64 0]) (t := 50) ?hr ?_; (case hd => rfl); (case hg => rfl); (case hr => first | (go_simp; done) | (go_simp; rfl)); intro gb605 hg w65 hbox hb; have n0_ := Aside0.mk (Kd.R_below (Kd.R_elderB (by (with_reducible repeat (first | apply Kd.R_alloc | apply Kd.R_drewN | apply Kd.R_drew)); exact HO602.out) gb605 (Nat.le_of_eq hg.symm)) hb); have n1_ := Aside0.mk (blk_below (g := gb583) (o := .cells #[.int .i64 t581, .int .i64 t582] 44 (0, 0)) (by (with_reducible repeat (first | refine blk_drewN ?_ _ | refine blk_drew ?_ | refine blk_alloc ?_ _)); exact BK583.out) hb); have n2_ := Aside0.mk (below_step (by repeat (first | (with_reducible first | exact HB.out | apply below_alloc | apply pw_below_drewN | apply below_drew1 | refine below_set ?_ GE583.out) | exact HB.out)) hb); have n3_ := Aside0.mk (hbox); have n4_ := Aside0.mk ((by rw [hg]; exact (below_size (by repeat (first | (with_reducible first | exact HB.out | apply below_alloc | apply pw_below_drewN | apply below_drew1 | refine below_set ?_ GE583.out) | exact HB.out))) : w.heap.size ≤ gb605)); have n5_ := Aside0.mk ((by rw [hg]; exact (below_size (by repeat (first | (with_reducible first | exact HB.out | apply below_alloc | apply pw_below_drewN | apply below_drew1 | refine below_set ?_ GE583.out) | exact HB.out))) : w.heap.size ≤ gb605)); have n6_ := Aside0.mk ((by rw [hg]; exact Nat.ne_of_lt (blk_lt (g := gb583) (o := .cells #[.int .i64 t581, .int .i64 t582] 44 (0, 0)) (by (with_reducible repeat (first | refine blk_drewN ?_ _ | refine blk_drew ?_ | refine blk_alloc ?_ _)); exact BK583.out)) : gb583 ≠ gb605)); have n7_ := Aside0.mk ((by rw [hg]; exact Nat.ne_of_gt (blk_lt (g := gb583) (o := .cells #[.int .i64 t581, .int .i64 t582] 44 (0, 0)) (by (with_reducible repeat (first | refine blk_drewN ?_ _ | refine blk_drew ?_ | refine blk_alloc ?_ _)); exact BK583.out)) : gb605 ≠ gb583)); clear HO602; clear BK583; clear HB; have HO602 := n0_; have BK583 := n1_; have HB := n2_; have BK605 := n3_; have GW605 := n4_; have GE605 := n5_; have NB583_605 := n6_; have NB605_583 := n7_; clear n0_ n1_ n2_ n3_ n4_ n5_ n6_ n7_; clear hb hbox hg; have hnb66 := NB605_583.out; have hnc66 := NB583_605.out; have hcz67_0 : w65.cell? ⟨gb605, 0, none⟩ = some (.int .i64 0) := (blk_cell BK605.out 0).trans rfl; have hcz67_1 : w65.cell? ⟨gb605, 1, none⟩ = some (.int .i64 0) := (blk_cell BK605.out 1).trans rfl; have hfz67_0 := blk_frozen BK605.out 0; have hfz67_1 := blk_frozen BK605.out 1; obtain ⟨Ao68, co68, eo68⟩ := Kd.R_slice HO602.out; subst eo68) | ((with_reducible refine gate_callee (f := 31) rfl ?_); refine goesL_ (some 104) rfl rfl Try.func31 (by kernel_rfl) rfl #[.slice Ao68 t600.length co68, .agg #[.int .i64 t603, .int .i64 t604]] rfl (by (try simp only [List.map_toArray, List.map_cons, List.map_nil]); first | done | rfl | (simp only [List.length_drop, List.length_take]; rfl)) ?_; (with_reducible refine (impl_InstrPut.calls kj26 _ _ t600 t603 t604 t606 false _ ?side1 ?side2 A44.out).mono ?_); (case side1 => refine (Kd.R_reads' (e := 50) (base := w.heap.size) (ok := fun k_ => (True ∧ k_ ≠ gb605)) (n := t600.length) (c := co68) ?_).2.2; exact (by (with_reducible repeat (first | apply Kd.R_alloc | apply Kd.R_drewN | apply Kd.R_drew)); exact (Kd.R_mono (Kd.R_far (p := ⟨gb605, 1, none⟩) (Kd.R_far (p := ⟨gb605, 0, none⟩) (Kd.R_mono HO602.out (fun k_ hk => (⟨hk, hk.2⟩ : _ ∧ k_ ≠ gb605))) (fun _ hk => hk.2) (.int .i64 t603)) (fun _ hk => hk.2) (.int .i64 t604)) (fun _ h_ => h_.1)))); (case side2 => exact (Kd.R_reads' HO602.out).2.1); rintro e w69 ⟨v607, rfl, ho0, hb⟩; refine ⟨_, rfl, ?_⟩; have n0_ := Aside0.mk (Kd.R_elder' (by (with_reducible repeat (first | apply Kd.R_alloc | apply Kd.R_drewN | apply Kd.R_drew)); exact (Kd.R_mono (Kd.R_far (p := ⟨gb605, 1, none⟩) (Kd.R_far (p := ⟨gb605, 0, none⟩) (Kd.R_mono HO602.out (fun k_ hk => (⟨hk, hk.2⟩ : _ ∧ k_ ≠ gb605))) (fun _ hk => hk.2) (.int .i64 t603)) (fun _ hk => hk.2) (.int .i64 t604)) (fun _ h_ => h_.1))) (Kd.R_base ho0) hb); have n1_ := Aside0.mk (Kd.R_lower (Kd.R_newB (Kd.R_new' ho0 (Kd.R_lt (by (with_reducible repeat (first | apply Kd.R_alloc | apply Kd.R_drewN | apply Kd.R_drew)); exact (Kd.R_mono (Kd.R_far (p := ⟨gb605, 1, none⟩) (Kd.R_far (p := ⟨gb605, 0, none⟩) (Kd.R_mono HO602.out (fun k_ hk => (⟨hk, hk.2⟩ : _ ∧ k_ ≠ gb605))) (fun _ hk => hk.2) (.int .i64 t603)) (fun _ hk => hk.2) (.int .i64 t604)) (fun _ h_ => h_.1))))) (g := gb605) (o := .cells #[.int .i64 t603, .int .i64 t604] 50 (0, 0)) (by (with_reducible repeat (first | refine blk_drewN ?_ _ | refine blk_drew ?_ | refine blk_alloc ?_ _)); refine blk_put (cs := #[.int .i64 t603, .int .i64 0]) ?_ 1 _ rfl; (with_reducible repeat (first | refine blk_drewN ?_ _ | refine blk_drew ?_ | refine blk_alloc ?_ _)); refine blk_put (cs := #[.int .i64 0, .int .i64 0]) ?_ 0 _ rfl; (with_reducible repeat (first | refine blk_drewN ?_ _ | refine blk_drew ?_ | refine blk_alloc ?_ _)); exact BK605.out)) (below_size (by repeat (first | (with_reducible first | exact HB.out | apply below_alloc | apply pw_below_drewN | apply below_drew1 | refine below_set ?_ GE583.out | refine below_set ?_ GE605.out) | exact HB.out)))); have n2_ := Aside0.mk (blk_below (g := gb583) (o := .cells #[.int .i64 t581, .int .i64 t582] 44 (0, 0)) (by (with_reducible repeat (first | refine blk_drewN ?_ _ | refine blk_drew ?_ | refine blk_alloc ?_ _)); refine blk_far ?_ NB583_605.out _; (with_reducible repeat (first | refine blk_drewN ?_ _ | refine blk_drew ?_ | refine blk_alloc ?_ _)); refine blk_far ?_ NB583_605.out _; (with_reducible repeat (first | refine blk_drewN ?_ _ | refine blk_drew ?_ | refine blk_alloc ?_ _)); exact BK583.out) hb); have n3_ := Aside0.mk (blk_below (g := gb605) (o := .cells #[.int .i64 t603, .int .i64 t604] 50 (0, 0)) (by (with_reducible repeat (first | refine blk_drewN ?_ _ | refine blk_drew ?_ | refine blk_alloc ?_ _)); refine blk_put (cs := #[.int .i64 t603, .int .i64 0]) ?_ 1 _ rfl; (with_reducible repeat (first | refine blk_drewN ?_ _ | refine blk_drew ?_ | refine blk_alloc ?_ _)); refine blk_put (cs := #[.int .i64 0, .int .i64 0]) ?_ 0 _ rfl; (with_reducible repeat (first | refine blk_drewN ?_ _ | refine blk_drew ?_ | refine blk_alloc ?_ _)); exact BK605.out) hb); have n4_ := Aside0.mk (below_step (by repeat (first | (with_reducible first | exact HB.out | apply below_alloc | apply pw_below_drewN | apply below_drew1 | refine below_set ?_ GE583.out | refine below_set ?_ GE605.out) | exact HB.out)) hb); clear HO602; clear BK583; clear BK605; clear HB; have HO602 := n0_; have HO608 := n1_; have BK583 := n2_; have BK605 := n3_; have HB := n4_; clear n0_ n1_ n2_ n3_ n4_; (try clear hb); (try clear hb2); (try clear hk); (try clear hi); (try clear ho0); have hcz70_0 : w69.cell? ⟨gb605, 0, none⟩ = some (.int .i64 t603) := (blk_cell BK605.out 0).trans rfl; have hcz70_1 : w69.cell? ⟨gb605, 1, none⟩ = some (.int .i64 t604) := (blk_cell BK605.out 1).trans rfl; have hfz70_0 := blk_frozen BK605.out 0; have hfz70_1 := blk_frozen BK605.out 1) | ((with_reducible refine gate_callee (f := 29) rfl ?_); refine goesL_ (some 110) rfl rfl Try.func29 (by kernel_rfl) rfl #[.slice Ao68 t600.length co68, .agg #[.int .i64 t603, .int .i64 t604]] rfl (by (try simp only [List.map_toArray, List.map_cons, List.map_nil]); first | done | rfl | (simp only [List.length_drop, List.length_take]; rfl)) ?_; (with_reducible refine (spec_InstrPut.calls kj26 _ _ t600 t603 t604 t610 t613 _ ?side1 ?side2 A45.out).mono ?_); (case side1 => repeat (first | exact (Kd.R_reads' HO602.out).2.2 | (with_reducible refine Kd.C_alloc ?_ _) | (with_reducible refine Kd.C_drewN ?_ _) | (with_reducible refine Kd.C_drew ?_))); (case side2 => exact (Kd.R_reads' HO602.out).2.1); rintro e w71 ⟨v611, rfl, ho0, hb⟩; refine ⟨_, rfl, ?_⟩; have n0_ := Aside0.mk (Kd.R_elder' (by (with_reducible repeat (first | apply Kd.R_alloc | apply Kd.R_drewN | apply Kd.R_drew)); exact HO602.out) (Kd.R_base ho0) hb); have n1_ := Aside0.mk (Kd.R_elder' (by (with_reducible repeat (first | apply Kd.R_alloc | apply Kd.R_drewN | apply Kd.R_drew)); exact HO608.out) (Kd.R_base ho0) hb); have n2_ := Aside0.mk (Kd.R_lower (Kd.R_newB (Kd.R_new' (Kd.R_new' ho0 (Kd.R_lt (by (with_reducible repeat (first | apply Kd.R_alloc | apply Kd.R_drewN | apply Kd.R_drew)); exact HO602.out))) (Kd.R_lt (by (with_reducible repeat (first | apply Kd.R_alloc | apply Kd.R_drewN | apply Kd.R_drew)); exact HO608.out))) (g := gb605) (o := .cells #[.int .i64 t603, .int .i64 t604] 50 (0, 0)) (by (with_reducible repeat (first | refine blk_drewN ?_ _ | refine blk_drew ?_ | refine blk_alloc ?_ _)); exact BK605.out)) (below_size (by repeat (first | (with_reducible first | exact HB.out | apply below_alloc | apply pw_below_drewN | apply below_drew1 | refine below_set ?_ GE583.out | refine below_set ?_ GE605.out) | exact HB.out)))); have n3_ := Aside0.mk (blk_below (g := gb583) (o := .cells #[.int .i64 t581, .int .i64 t582] 44 (0, 0)) (by (with_reducible repeat (first | refine blk_drewN ?_ _ | refine blk_drew ?_ | refine blk_alloc ?_ _)); exact BK583.out) hb); have n4_ := Aside0.mk (blk_below (g := gb605) (o := .cells #[.int .i64 t603, .int .i64 t604] 50 (0, 0)) (by (with_reducible repeat (first | refine blk_drewN ?_ _ | refine blk_drew ?_ | refine blk_alloc ?_ _)); exact BK605.out) hb); have n5_ := Aside0.mk (below_step (by repeat (first | (with_reducible first | exact HB.out | apply below_alloc | apply pw_below_drewN | apply below_drew1 | refine below_set ?_ GE583.out | refine below_set ?_ GE605.out) | exact HB.out)) hb); clear HO602; clear HO608; clear BK583; clear BK605; clear HB; have HO602 := n0_; have HO608 := n1_; have HO612 := n2_; have BK583 := n3_; have BK605 := n4_; have HB := n5_; clear n0_ n1_ n2_ n3_ n4_ n5_; (try clear hb); (try clear hb2); (try clear hk); (try clear hi); (try clear ho0)))
              have n0_ := Aside0.mk (Kd.R_drew HO602.out)
              have n1_ := Aside0.mk (Kd.R_drew HO608.out)
              have n2_ := Aside0.mk (Kd.R_drew HO612.out)
              have n3_ := Aside0.mk (blk_drew BK583.out)
              have n4_ := Aside0.mk (blk_drew BK605.out)
              have n5_ := Aside0.mk (below_drew1 HB.out)
              clear HO602
              clear HO608
              clear HO612
              clear BK583
              clear BK605
              clear HB
              have HO602 := n0_
              have HO608 := n1_
              have HO612 := n2_
              have BK583 := n3_
              have BK605 := n4_
              have HB := n5_
              clear n0_ n1_ n2_ n3_ n4_ n5_
              refine start_ (n := 29) (S := fun w' => True) (ds := []) #[false, false, false, false, false, false, false, false, false, false, false, false, false, false, false, false, false, false, false, false, false, false, false, false, false, false, false, false, false] (by kernel_rfl) rfl rfl trivial (fun hHeld => ?_); refine with_tabW laws_FnChart.tab23 laws_FnChart.bits23 (fun HT_ HW_ => ?_)
              generalize w71.drew = w72 at HO602 HO608 HO612 BK583 BK605 HB hHeld ⊢
              refine pure_ (i := 0) (N := some 113) (v := ?_) (a' := ?_) #[true, false, false, false, false, false, false, false, false, false, false, false, false, false, false, false, false, false, false, false, false, false, false, false, false, false, false, false, false] rfl rfl (any_of HT_.out (by kernel_rfl)) (fun _ _ _ h => h) (Or.inl ⟨by rfl, ?_⟩) ?_ ?_
              rotate_left
              ·
               intro w'
               go_simp
               with_reducible rfl
              rotate_left
              ·
               simp only [Act.put, List.setIfInBounds_toArray, List.set_cons_zero, List.set_cons_succ, i64_w, i32_w]
               rfl
              refine pure_ (i := 1) (N := some 114) (v := ?_) (a' := ?_) #[true, true, false, false, false, false, false, false, false, false, false, false, false, false, false, false, false, false, false, false, false, false, false, false, false, false, false, false, false] rfl rfl (any_of HT_.out (by kernel_rfl)) (fun _ _ _ h => h) (Or.inl ⟨by rfl, ?_⟩) ?_ ?_
              rotate_left
              ·
               intro w'
               go_simp
               with_reducible rfl
              rotate_left
              ·
               simp only [Act.put, List.setIfInBounds_toArray, List.set_cons_zero, List.set_cons_succ, i64_w, i32_w]
               rfl
              refine pure_ (i := 2) (N := some 115) (v := ?_) (a' := ?_) #[true, true, true, false, false, false, false, false, false, false, false, false, false, false, false, false, false, false, false, false, false, false, false, false, false, false, false, false, false] rfl rfl (any_of HT_.out (by kernel_rfl)) (fun _ _ _ h => h) (Or.inl ⟨by rfl, ?_⟩) ?_ ?_
              rotate_left
              ·
               intro w'
               go_simp
               with_reducible rfl
              rotate_left
              ·
               simp only [Act.put, List.setIfInBounds_toArray, List.set_cons_zero, List.set_cons_succ, i64_w, i32_w]
               rfl
              refine pure_ (i := 3) (N := some 116) (v := ?_) (a' := ?_) #[true, true, true, true, false, false, false, false, false, false, false, false, false, false, false, false, false, false, false, false, false, false, false, false, false, false, false, false, false] rfl rfl (any_of HT_.out (by kernel_rfl)) (fun _ _ _ h => h) (Or.inl ⟨by rfl, ?_⟩) ?_ ?_
              rotate_left
              ·
               intro w'
               go_simp
               with_reducible rfl
              rotate_left
              ·
               simp only [Act.put, List.setIfInBounds_toArray, List.set_cons_zero, List.set_cons_succ, i64_w, i32_w]
               rfl
              refine pure_ (i := 4) (N := some 117) (v := ?_) (a' := ?_) #[true, true, true, true, true, false, false, false, false, false, false, false, false, false, false, false, false, false, false, false, false, false, false, false, false, false, false, false, false] rfl rfl (any_of HT_.out (by kernel_rfl)) (fun _ _ _ h => h) (Or.inl ⟨by rfl, ?_⟩) ?_ ?_
              rotate_left
              ·
               intro w'
               go_simp
               with_reducible rfl
              rotate_left
              ·
               simp only [Act.put, List.setIfInBounds_toArray, List.set_cons_zero, List.set_cons_succ, i64_w, i32_w]
               rfl
              refine pure_ (i := 5) (N := some 118) (v := ?_) (a' := ?_) #[true, true, true, true, true, true, false, false, false, false, false, false, false, false, false, false, false, false, false, false, false, false, false, false, false, false, false, false, false] rfl rfl (any_of HT_.out (by kernel_rfl)) (fun _ _ _ h => h) (Or.inl ⟨by rfl, ?_⟩) ?_ ?_
              rotate_left
              ·
               intro w'
               go_simp
               with_reducible rfl
              rotate_left
              ·
               simp only [Act.put, List.setIfInBounds_toArray, List.set_cons_zero, List.set_cons_succ, i64_w, i32_w]
               rfl
              refine pure_ (i := 6) (N := some 119) (v := ?_) (a' := ?_) #[true, true, true, true, true, true, true, false, false, false, false, false, false, false, false, false, false, false, false, false, false, false, false, false, false, false, false, false, false] rfl rfl (any_of HT_.out (by kernel_rfl)) (fun _ _ _ h => h) (Or.inl ⟨by rfl, ?_⟩) ?_ ?_
              rotate_left
              ·
               intro w'
               go_simp
               with_reducible rfl
              rotate_left
              ·
               simp only [Act.put, List.setIfInBounds_toArray, List.set_cons_zero, List.set_cons_succ, i64_w, i32_w]
               rfl
              refine pure_ (i := 7) (N := some 120) (v := undef) (a' := ?_) #[true, true, true, true, true, true, true, true, false, false, false, false, false, false, false, false, false, false, false, false, false, false, false, false, false, false, false, false, false] rfl rfl (any_of HT_.out (by kernel_rfl)) (fun _ _ _ h => h) (Or.inr ⟨by rfl, rfl⟩) ?_ ?_
              rotate_left
              ·
               simp only [Act.put, List.setIfInBounds_toArray, List.set_cons_zero, List.set_cons_succ, i64_w, i32_w]
               rfl
              refine pure_ (i := 8) (N := some 121) (v := undef) (a' := ?_) #[true, true, true, true, true, true, true, true, true, false, false, false, false, false, false, false, false, false, false, false, false, false, false, false, false, false, false, false, false] rfl rfl (any_of HT_.out (by kernel_rfl)) (fun _ _ _ h => h) (Or.inr ⟨by rfl, rfl⟩) ?_ ?_
              rotate_left
              ·
               simp only [Act.put, List.setIfInBounds_toArray, List.set_cons_zero, List.set_cons_succ, i64_w, i32_w]
               rfl
              refine pure_ (i := 9) (N := some 122) (v := undef) (a' := ?_) #[true, true, true, true, true, true, true, true, true, true, false, false, false, false, false, false, false, false, false, false, false, false, false, false, false, false, false, false, false] rfl rfl (any_of HT_.out (by kernel_rfl)) (fun _ _ _ h => h) (Or.inr ⟨by rfl, rfl⟩) ?_ ?_
              rotate_left
              ·
               simp only [Act.put, List.setIfInBounds_toArray, List.set_cons_zero, List.set_cons_succ, i64_w, i32_w]
               rfl
              refine pure_ (i := 10) (N := some 123) (v := undef) (a' := ?_) #[true, true, true, true, true, true, true, true, true, true, true, false, false, false, false, false, false, false, false, false, false, false, false, false, false, false, false, false, false] rfl rfl (any_of HT_.out (by kernel_rfl)) (fun _ _ _ h => h) (Or.inr ⟨by rfl, rfl⟩) ?_ ?_
              rotate_left
              ·
               simp only [Act.put, List.setIfInBounds_toArray, List.set_cons_zero, List.set_cons_succ, i64_w, i32_w]
               rfl
              refine pure_ (i := 11) (N := some 124) (v := undef) (a' := ?_) #[true, true, true, true, true, true, true, true, true, true, true, true, false, false, false, false, false, false, false, false, false, false, false, false, false, false, false, false, false] rfl rfl (any_of HT_.out (by kernel_rfl)) (fun _ _ _ h => h) (Or.inr ⟨by rfl, rfl⟩) ?_ ?_
              rotate_left
              ·
               simp only [Act.put, List.setIfInBounds_toArray, List.set_cons_zero, List.set_cons_succ, i64_w, i32_w]
               rfl
              refine pure_ (i := 12) (N := some 125) (v := undef) (a' := ?_) #[true, true, true, true, true, true, true, true, true, true, true, true, true, false, false, false, false, false, false, false, false, false, false, false, false, false, false, false, false] rfl rfl (any_of HT_.out (by kernel_rfl)) (fun _ _ _ h => h) (Or.inr ⟨by rfl, rfl⟩) ?_ ?_
              rotate_left
              ·
               simp only [Act.put, List.setIfInBounds_toArray, List.set_cons_zero, List.set_cons_succ, i64_w, i32_w]
               rfl
              refine pure_ (i := 13) (N := some 126) (v := undef) (a' := ?_) #[true, true, true, true, true, true, true, true, true, true, true, true, true, true, false, false, false, false, false, false, false, false, false, false, false, false, false, false, false] rfl rfl (any_of HT_.out (by kernel_rfl)) (fun _ _ _ h => h) (Or.inr ⟨by rfl, rfl⟩) ?_ ?_
              rotate_left
              ·
               simp only [Act.put, List.setIfInBounds_toArray, List.set_cons_zero, List.set_cons_succ, i64_w, i32_w]
               rfl
              refine pure_ (i := 14) (N := some 127) (v := undef) (a' := ?_) #[true, true, true, true, true, true, true, true, true, true, true, true, true, true, true, false, false, false, false, false, false, false, false, false, false, false, false, false, false] rfl rfl (any_of HT_.out (by kernel_rfl)) (fun _ _ _ h => h) (Or.inr ⟨by rfl, rfl⟩) ?_ ?_
              rotate_left
              ·
               simp only [Act.put, List.setIfInBounds_toArray, List.set_cons_zero, List.set_cons_succ, i64_w, i32_w]
               rfl
              refine pure_ (i := 15) (N := some 128) (v := undef) (a' := ?_) #[true, true, true, true, true, true, true, true, true, true, true, true, true, true, true, true, false, false, false, false, false, false, false, false, false, false, false, false, false] rfl rfl (any_of HT_.out (by kernel_rfl)) (fun _ _ _ h => h) (Or.inr ⟨by rfl, rfl⟩) ?_ ?_
              rotate_left
              ·
               simp only [Act.put, List.setIfInBounds_toArray, List.set_cons_zero, List.set_cons_succ, i64_w, i32_w]
               rfl
              refine pure_ (i := 16) (N := some 129) (v := undef) (a' := ?_) #[true, true, true, true, true, true, true, true, true, true, true, true, true, true, true, true, true, false, false, false, false, false, false, false, false, false, false, false, false] rfl rfl (any_of HT_.out (by kernel_rfl)) (fun _ _ _ h => h) (Or.inr ⟨by rfl, rfl⟩) ?_ ?_
              rotate_left
              ·
               simp only [Act.put, List.setIfInBounds_toArray, List.set_cons_zero, List.set_cons_succ, i64_w, i32_w]
               rfl
              refine pure_ (i := 17) (N := some 130) (v := undef) (a' := ?_) #[true, true, true, true, true, true, true, true, true, true, true, true, true, true, true, true, true, true, false, false, false, false, false, false, false, false, false, false, false] rfl rfl (any_of HT_.out (by kernel_rfl)) (fun _ _ _ h => h) (Or.inr ⟨by rfl, rfl⟩) ?_ ?_
              rotate_left
              ·
               simp only [Act.put, List.setIfInBounds_toArray, List.set_cons_zero, List.set_cons_succ, i64_w, i32_w]
               rfl
              refine pure_ (i := 18) (N := some 131) (v := undef) (a' := ?_) #[true, true, true, true, true, true, true, true, true, true, true, true, true, true, true, true, true, true, true, false, false, false, false, false, false, false, false, false, false] rfl rfl (any_of HT_.out (by kernel_rfl)) (fun _ _ _ h => h) (Or.inr ⟨by rfl, rfl⟩) ?_ ?_
              rotate_left
              ·
               simp only [Act.put, List.setIfInBounds_toArray, List.set_cons_zero, List.set_cons_succ, i64_w, i32_w]
               rfl
              refine pure_ (i := 19) (N := some 132) (v := undef) (a' := ?_) #[true, true, true, true, true, true, true, true, true, true, true, true, true, true, true, true, true, true, true, true, false, false, false, false, false, false, false, false, false] rfl rfl (any_of HT_.out (by kernel_rfl)) (fun _ _ _ h => h) (Or.inr ⟨by rfl, rfl⟩) ?_ ?_
              rotate_left
              ·
               simp only [Act.put, List.setIfInBounds_toArray, List.set_cons_zero, List.set_cons_succ, i64_w, i32_w]
               rfl
              refine pure_ (i := 20) (N := some 133) (v := undef) (a' := ?_) #[true, true, true, true, true, true, true, true, true, true, true, true, true, true, true, true, true, true, true, true, true, false, false, false, false, false, false, false, false] rfl rfl (any_of HT_.out (by kernel_rfl)) (fun _ _ _ h => h) (Or.inr ⟨by rfl, rfl⟩) ?_ ?_
              rotate_left
              ·
               simp only [Act.put, List.setIfInBounds_toArray, List.set_cons_zero, List.set_cons_succ, i64_w, i32_w]
               rfl
              refine pure_ (i := 21) (N := some 134) (v := undef) (a' := ?_) #[true, true, true, true, true, true, true, true, true, true, true, true, true, true, true, true, true, true, true, true, true, true, false, false, false, false, false, false, false] rfl rfl (any_of HT_.out (by kernel_rfl)) (fun _ _ _ h => h) (Or.inr ⟨by rfl, rfl⟩) ?_ ?_
              rotate_left
              ·
               simp only [Act.put, List.setIfInBounds_toArray, List.set_cons_zero, List.set_cons_succ, i64_w, i32_w]
               rfl
              refine pure_ (i := 22) (N := some 135) (v := undef) (a' := ?_) #[true, true, true, true, true, true, true, true, true, true, true, true, true, true, true, true, true, true, true, true, true, true, true, false, false, false, false, false, false] rfl rfl (any_of HT_.out (by kernel_rfl)) (fun _ _ _ h => h) (Or.inr ⟨by rfl, rfl⟩) ?_ ?_
              rotate_left
              ·
               simp only [Act.put, List.setIfInBounds_toArray, List.set_cons_zero, List.set_cons_succ, i64_w, i32_w]
               rfl
              refine pure_ (i := 23) (N := some 136) (v := undef) (a' := ?_) #[true, true, true, true, true, true, true, true, true, true, true, true, true, true, true, true, true, true, true, true, true, true, true, true, false, false, false, false, false] rfl rfl (any_of HT_.out (by kernel_rfl)) (fun _ _ _ h => h) (Or.inr ⟨by rfl, rfl⟩) ?_ ?_
              rotate_left
              ·
               simp only [Act.put, List.setIfInBounds_toArray, List.set_cons_zero, List.set_cons_succ, i64_w, i32_w]
               rfl
              refine pure_ (i := 24) (N := some 137) (v := undef) (a' := ?_) #[true, true, true, true, true, true, true, true, true, true, true, true, true, true, true, true, true, true, true, true, true, true, true, true, true, false, false, false, false] rfl rfl (any_of HT_.out (by kernel_rfl)) (fun _ _ _ h => h) (Or.inr ⟨by rfl, rfl⟩) ?_ ?_
              rotate_left
              ·
               simp only [Act.put, List.setIfInBounds_toArray, List.set_cons_zero, List.set_cons_succ, i64_w, i32_w]
               rfl
              refine pure_ (i := 25) (N := some 138) (v := undef) (a' := ?_) #[true, true, true, true, true, true, true, true, true, true, true, true, true, true, true, true, true, true, true, true, true, true, true, true, true, true, false, false, false] rfl rfl (any_of HT_.out (by kernel_rfl)) (fun _ _ _ h => h) (Or.inr ⟨by rfl, rfl⟩) ?_ ?_
              rotate_left
              ·
               simp only [Act.put, List.setIfInBounds_toArray, List.set_cons_zero, List.set_cons_succ, i64_w, i32_w]
               rfl
              refine pure_ (i := 26) (N := some 139) (v := ?_) (a' := ?_) #[true, true, true, true, true, true, true, true, true, true, true, true, true, true, true, true, true, true, true, true, true, true, true, true, true, true, true, false, false] rfl rfl (any_of HT_.out (by kernel_rfl)) (fun _ _ _ h => h) (Or.inl ⟨by rfl, ?_⟩) ?_ ?_
              rotate_left
              ·
               intro w'
               go_simp
               with_reducible rfl
              rotate_left
              ·
               simp only [Act.put, List.setIfInBounds_toArray, List.set_cons_zero, List.set_cons_succ, i64_w, i32_w]
               rfl
              refine pure_ (i := 27) (N := some 140) (v := ?_) (a' := ?_) #[true, true, true, true, true, true, true, true, true, true, true, true, true, true, true, true, true, true, true, true, true, true, true, true, true, true, true, true, false] rfl rfl (any_of HT_.out (by kernel_rfl)) (fun _ _ _ h => h) (Or.inl ⟨by rfl, ?_⟩) ?_ ?_
              rotate_left
              ·
               intro w'
               go_simp
               with_reducible rfl
              rotate_left
              ·
               simp only [Act.put, List.setIfInBounds_toArray, List.set_cons_zero, List.set_cons_succ, i64_w, i32_w]
               rfl
              refine pure_ (i := 28) (N := some 2) (v := ?_) (a' := ?_) #[true, true, true, true, true, true, true, true, true, true, true, true, true, true, true, true, true, true, true, true, true, true, true, true, true, true, true, true, true] rfl rfl (any_of HT_.out (by kernel_rfl)) (fun _ _ _ h => h) (Or.inl ⟨by rfl, ?_⟩) ?_ ?_
              rotate_left
              ·
               intro w'
               go_simp
               with_reducible rfl
              rotate_left
              ·
               simp only [Act.put, List.setIfInBounds_toArray, List.set_cons_zero, List.set_cons_succ, i64_w, i32_w]
               rfl
              refine done_ (done_of HT_.out (by kernel_rfl)) ?_
              try go_wp2
              go_ret
              exact ⟨by first | rfl | (simp [errW_none, errW_some] <;> rfl) | (simp [*, errW_none, errW_some] <;> rfl), by repeat (first | (with_reducible first | exact HB.out | apply below_alloc | apply pw_below_drewN | apply below_drew1 | refine below_set ?_ GE583.out | refine below_set ?_ GE605.out) | exact HB.out)⟩
            ·
             rw [if_neg c46] at H
             have c46b0 : (t609 == t613) = false := by simpa using c46
             (try (have c46b1 : decide (t609 = t613) = false := by simpa using c46))
             (try (have c46b2 : (t609 == t613) = false := by simpa using c46))
             (try (have c46b3 : ¬ (t609 = t613) := by simpa using c46))
             clear c46
             exact absurd H (by simp)
   ·
    replace c9 := Bool.eq_false_iff.mpr c9
    subst c9
    have H1 : (if (t584.length : Int) = 0 then ((impl_AccountKind.f k t578 t581).bind fun t593 => (some (t593 == 0))) else (none)) = some r := by rw [if_neg (show ¬ (false = true) by decide)] at H; exact H
    clear H
    have H := H1
    clear H1
    by_cases c73 : (t584.length : Int) = 0
    ·
     rw [if_pos c73] at H
     have c73b0 : ((t584.length : Int) == 0) = true := beq_iff_eq.mpr c73
     have c73b1 : ((t584.length : Int) != 0) = false := bne_eq_false_iff_eq.mpr c73
     clear c73
     replace H := Option.bind_eq_some_iff.mp H
     obtain ⟨t593, A740, H⟩ := H
     replace H : (some (t593 == 0)) = some r := H
     have A74 := Aside0.mk A740
     clear A740
     obtain rfl := Option.some.inj H
     go_enter Try.func9, Try.ntmps9
     go_wp2_with (first | ((with_reducible refine gate_callee (f := 34) rfl ?_); refine goesL_ (some 18) rfl rfl Try.func34 (by kernel_rfl) rfl #[.slice A0 l0.length c0] rfl (by (try simp only [List.map_toArray, List.map_cons, List.map_nil]); first | done | rfl | (simp only [List.length_drop, List.length_take]; rfl)) ?_; (with_reducible refine (laws_big.calls _ _ l0 false _ ?side1 ?side2 A2.out).mono ?_); (case side1 => repeat (first | exact HR0.out | (with_reducible refine Kd.C_alloc ?_ _) | (with_reducible refine Kd.C_drewN ?_ _) | (with_reducible refine Kd.C_drew ?_))); (case side2 => exact HC0.out); rintro e w' ⟨rfl, ⟨nd, rfl⟩⟩; refine ⟨_, rfl, ?_⟩) | ((with_reducible refine gate_callee (f := 35) rfl ?_); refine goesL_ (some 21) rfl rfl Try.func35 (by kernel_rfl) rfl #[.slice A0 l0.length c0] rfl (by (try simp only [List.map_toArray, List.map_cons, List.map_nil]); first | done | rfl | (simp only [List.length_drop, List.length_take]; rfl)) ?_; (with_reducible refine (spec_DrawAccountPut.calls k _ _ l0 t578 t581 t582 _ ?side1 ?side2 A4.out).mono ?_); (case side1 => repeat (first | exact HR0.out | (with_reducible refine Kd.C_alloc ?_ _) | (with_reducible refine Kd.C_drewN ?_ _) | (with_reducible refine Kd.C_drew ?_))); (case side2 => exact HC0.out); rintro e w75 ⟨v579, rfl, ho0, hb⟩; refine ⟨_, rfl, ?_⟩; have n0_ := Aside0.mk (Kd.R_lower ho0 (below_size (by repeat (first | (with_reducible first | exact HB.out | apply below_alloc | apply pw_below_drewN | apply below_drew1) | exact HB.out)))); have n1_ := Aside0.mk (below_step (by repeat (first | (with_reducible first | exact HB.out | apply below_alloc | apply pw_below_drewN | apply below_drew1) | exact HB.out)) hb); clear HB; have HO580 := n0_; have HB := n1_; clear n0_ n1_; (try clear hb); (try clear hb2); (try clear hk); (try clear hi); (try clear ho0)) | ((with_reducible refine gate_dst (N := 4) rfl ?_); (try (refine gate_guard (by rfl) ?_; dsimp only)); refine box_event ?hg (N := 4) ?hd (cs := #[.int .i64 0, .int .i64 0]) (t := 44) ?hr ?_; (case hd => rfl); (case hg => rfl); (case hr => first | (go_simp; done) | (go_simp; rfl)); intro gb583 hg w76 hbox hb; have n0_ := Aside0.mk (Kd.R_below (Kd.R_elderB (by (with_reducible repeat (first | apply Kd.R_alloc | apply Kd.R_drewN | apply Kd.R_drew)); exact HO580.out) gb583 (Nat.le_of_eq hg.symm)) hb); have n1_ := Aside0.mk (below_step (by repeat (first | (with_reducible first | exact HB.out | apply below_alloc | apply pw_below_drewN | apply below_drew1) | exact HB.out)) hb); have n2_ := Aside0.mk (hbox); have n3_ := Aside0.mk ((by rw [hg]; exact (below_size (by repeat (first | (with_reducible first | exact HB.out | apply below_alloc | apply pw_below_drewN | apply below_drew1) | exact HB.out))) : w.heap.size ≤ gb583)); have n4_ := Aside0.mk ((by rw [hg]; exact (below_size (by repeat (first | (with_reducible first | exact HB.out | apply below_alloc | apply pw_below_drewN | apply below_drew1) | exact HB.out))) : w.heap.size ≤ gb583)); clear HO580; clear HB; have HO580 := n0_; have HB := n1_; have BK583 := n2_; have GW583 := n3_; have GE583 := n4_; clear n0_ n1_ n2_ n3_ n4_; clear hb hbox hg; have hcz77_0 : w76.cell? ⟨gb583, 0, none⟩ = some (.int .i64 0) := (blk_cell BK583.out 0).trans rfl; have hcz77_1 : w76.cell? ⟨gb583, 1, none⟩ = some (.int .i64 0) := (blk_cell BK583.out 1).trans rfl; have hfz77_0 := blk_frozen BK583.out 0; have hfz77_1 := blk_frozen BK583.out 1; obtain ⟨Ao78, co78, eo78⟩ := Kd.R_slice HO580.out; subst eo78) | ((with_reducible refine gate_callee (f := 26) rfl ?_); refine goesL_ (some 27) rfl rfl Try.func26 (by kernel_rfl) rfl #[.slice Ao78 t578.length co78, .agg #[.int .i64 t581, .int .i64 t582]] rfl (by (try simp only [List.map_toArray, List.map_cons, List.map_nil]); first | done | rfl | (simp only [List.length_drop, List.length_take]; rfl)) ?_; (with_reducible refine (impl_AccountPut.calls k _ _ t578 t581 t582 t584 t587 _ ?side1 ?side2 A5.out).mono ?_); (case side1 => refine (Kd.R_reads' (e := 44) (base := w.heap.size) (ok := fun k_ => (True ∧ k_ ≠ gb583)) (n := t578.length) (c := co78) ?_).2.2; exact (by (with_reducible repeat (first | apply Kd.R_alloc | apply Kd.R_drewN | apply Kd.R_drew)); exact (Kd.R_mono (Kd.R_far (p := ⟨gb583, 1, none⟩) (Kd.R_far (p := ⟨gb583, 0, none⟩) (Kd.R_mono HO580.out (fun k_ hk => (⟨hk, hk.2⟩ : _ ∧ k_ ≠ gb583))) (fun _ hk => hk.2) (.int .i64 t581)) (fun _ hk => hk.2) (.int .i64 t582)) (fun _ h_ => h_.1)))); (case side2 => exact (Kd.R_reads' HO580.out).2.1); rintro e w79 ⟨v585, rfl, ho0, hb⟩; refine ⟨_, rfl, ?_⟩; have n0_ := Aside0.mk (Kd.R_elder' (by (with_reducible repeat (first | apply Kd.R_alloc | apply Kd.R_drewN | apply Kd.R_drew)); exact (Kd.R_mono (Kd.R_far (p := ⟨gb583, 1, none⟩) (Kd.R_far (p := ⟨gb583, 0, none⟩) (Kd.R_mono HO580.out (fun k_ hk => (⟨hk, hk.2⟩ : _ ∧ k_ ≠ gb583))) (fun _ hk => hk.2) (.int .i64 t581)) (fun _ hk => hk.2) (.int .i64 t582)) (fun _ h_ => h_.1))) (Kd.R_base ho0) hb); have n1_ := Aside0.mk (Kd.R_lower (Kd.R_newB (Kd.R_new' ho0 (Kd.R_lt (by (with_reducible repeat (first | apply Kd.R_alloc | apply Kd.R_drewN | apply Kd.R_drew)); exact (Kd.R_mono (Kd.R_far (p := ⟨gb583, 1, none⟩) (Kd.R_far (p := ⟨gb583, 0, none⟩) (Kd.R_mono HO580.out (fun k_ hk => (⟨hk, hk.2⟩ : _ ∧ k_ ≠ gb583))) (fun _ hk => hk.2) (.int .i64 t581)) (fun _ hk => hk.2) (.int .i64 t582)) (fun _ h_ => h_.1))))) (g := gb583) (o := .cells #[.int .i64 t581, .int .i64 t582] 44 (0, 0)) (by (with_reducible repeat (first | refine blk_drewN ?_ _ | refine blk_drew ?_ | refine blk_alloc ?_ _)); refine blk_put (cs := #[.int .i64 t581, .int .i64 0]) ?_ 1 _ rfl; (with_reducible repeat (first | refine blk_drewN ?_ _ | refine blk_drew ?_ | refine blk_alloc ?_ _)); refine blk_put (cs := #[.int .i64 0, .int .i64 0]) ?_ 0 _ rfl; (with_reducible repeat (first | refine blk_drewN ?_ _ | refine blk_drew ?_ | refine blk_alloc ?_ _)); exact BK583.out)) (below_size (by repeat (first | (with_reducible first | exact HB.out | apply below_alloc | apply pw_below_drewN | apply below_drew1 | refine below_set ?_ GE583.out) | exact HB.out)))); have n2_ := Aside0.mk (blk_below (g := gb583) (o := .cells #[.int .i64 t581, .int .i64 t582] 44 (0, 0)) (by (with_reducible repeat (first | refine blk_drewN ?_ _ | refine blk_drew ?_ | refine blk_alloc ?_ _)); refine blk_put (cs := #[.int .i64 t581, .int .i64 0]) ?_ 1 _ rfl; (with_reducible repeat (first | refine blk_drewN ?_ _ | refine blk_drew ?_ | refine blk_alloc ?_ _)); refine blk_put (cs := #[.int .i64 0, .int .i64 0]) ?_ 0 _ rfl; (with_reducible repeat (first | refine blk_drewN ?_ _ | refine blk_drew ?_ | refine blk_alloc ?_ _)); exact BK583.out) hb); have n3_ := Aside0.mk (below_step (by repeat (first | (with_reducible first | exact HB.out | apply below_alloc | apply pw_below_drewN | apply below_drew1 | refine below_set ?_ GE583.out) | exact HB.out)) hb); clear HO580; clear BK583; clear HB; have HO580 := n0_; have HO586 := n1_; have BK583 := n2_; have HB := n3_; clear n0_ n1_ n2_ n3_; (try clear hb); (try clear hb2); (try clear hk); (try clear hi); (try clear ho0); have hcz80_0 : w79.cell? ⟨gb583, 0, none⟩ = some (.int .i64 t581) := (blk_cell BK583.out 0).trans rfl; have hcz80_1 : w79.cell? ⟨gb583, 1, none⟩ = some (.int .i64 t582) := (blk_cell BK583.out 1).trans rfl; have hfz80_0 := blk_frozen BK583.out 0; have hfz80_1 := blk_frozen BK583.out 1) | ((with_reducible refine gate_callee (f := 24) rfl ?_); refine goesL_ (some 33) rfl rfl Try.func24 (by kernel_rfl) rfl #[.slice Ao78 t578.length co78, .agg #[.int .i64 t581, .int .i64 t582]] rfl (by (try simp only [List.map_toArray, List.map_cons, List.map_nil]); first | done | rfl | (simp only [List.length_drop, List.length_take]; rfl)) ?_; (with_reducible refine (spec_AccountPut.calls k _ _ t578 t581 t582 t588 t591 _ ?side1 ?side2 A6.out).mono ?_); (case side1 => repeat (first | exact (Kd.R_reads' HO580.out).2.2 | (with_reducible refine Kd.C_alloc ?_ _) | (with_reducible refine Kd.C_drewN ?_ _) | (with_reducible refine Kd.C_drew ?_))); (case side2 => exact (Kd.R_reads' HO580.out).2.1); rintro e w81 ⟨v589, rfl, ho0, hb⟩; refine ⟨_, rfl, ?_⟩; have n0_ := Aside0.mk (Kd.R_elder' (by (with_reducible repeat (first | apply Kd.R_alloc | apply Kd.R_drewN | apply Kd.R_drew)); exact HO580.out) (Kd.R_base ho0) hb); have n1_ := Aside0.mk (Kd.R_elder' (by (with_reducible repeat (first | apply Kd.R_alloc | apply Kd.R_drewN | apply Kd.R_drew)); exact HO586.out) (Kd.R_base ho0) hb); have n2_ := Aside0.mk (Kd.R_lower (Kd.R_newB (Kd.R_new' (Kd.R_new' ho0 (Kd.R_lt (by (with_reducible repeat (first | apply Kd.R_alloc | apply Kd.R_drewN | apply Kd.R_drew)); exact HO580.out))) (Kd.R_lt (by (with_reducible repeat (first | apply Kd.R_alloc | apply Kd.R_drewN | apply Kd.R_drew)); exact HO586.out))) (g := gb583) (o := .cells #[.int .i64 t581, .int .i64 t582] 44 (0, 0)) (by (with_reducible repeat (first | refine blk_drewN ?_ _ | refine blk_drew ?_ | refine blk_alloc ?_ _)); exact BK583.out)) (below_size (by repeat (first | (with_reducible first | exact HB.out | apply below_alloc | apply pw_below_drewN | apply below_drew1 | refine below_set ?_ GE583.out) | exact HB.out)))); have n3_ := Aside0.mk (blk_below (g := gb583) (o := .cells #[.int .i64 t581, .int .i64 t582] 44 (0, 0)) (by (with_reducible repeat (first | refine blk_drewN ?_ _ | refine blk_drew ?_ | refine blk_alloc ?_ _)); exact BK583.out) hb); have n4_ := Aside0.mk (below_step (by repeat (first | (with_reducible first | exact HB.out | apply below_alloc | apply pw_below_drewN | apply below_drew1 | refine below_set ?_ GE583.out) | exact HB.out)) hb); clear HO580; clear HO586; clear BK583; clear HB; have HO580 := n0_; have HO586 := n1_; have HO590 := n2_; have BK583 := n3_; have HB := n4_; clear n0_ n1_ n2_ n3_ n4_; (try clear hb); (try clear hb2); (try clear hk); (try clear hi); (try clear ho0)) | ((with_reducible refine gate_callee (f := 11) rfl ?_); refine goesL_ (some 40) rfl rfl Try.func11 (by kernel_rfl) rfl #[.slice Ao78 t578.length co78] rfl (by (try simp only [List.map_toArray, List.map_cons, List.map_nil]); first | done | rfl | (simp only [List.length_drop, List.length_take]; rfl)) ?_; (with_reducible refine (spec_AccountsOk.calls k _ _ t578 false _ ?side1 ?side2 A8.out).mono ?_); (case side1 => repeat (first | exact (Kd.R_reads' HO580.out).2.2 | (with_reducible refine Kd.C_alloc ?_ _) | (with_reducible refine Kd.C_drewN ?_ _) | (with_reducible refine Kd.C_drew ?_))); (case side2 => exact (Kd.R_reads' HO580.out).2.1); rintro e w82 ⟨rfl, hb⟩; refine ⟨_, rfl, ?_⟩; have n0_ := Aside0.mk (Kd.R_below (by (with_reducible repeat (first | apply Kd.R_alloc | apply Kd.R_drewN | apply Kd.R_drew)); exact HO580.out) hb); have n1_ := Aside0.mk (Kd.R_below (by (with_reducible repeat (first | apply Kd.R_alloc | apply Kd.R_drewN | apply Kd.R_drew)); exact HO586.out) hb); have n2_ := Aside0.mk (Kd.R_below (by (with_reducible repeat (first | apply Kd.R_alloc | apply Kd.R_drewN | apply Kd.R_drew)); exact HO590.out) hb); have n3_ := Aside0.mk (blk_below (g := gb583) (o := .cells #[.int .i64 t581, .int .i64 t582] 44 (0, 0)) (by (with_reducible repeat (first | refine blk_drewN ?_ _ | refine blk_drew ?_ | refine blk_alloc ?_ _)); exact BK583.out) hb); have n4_ := Aside0.mk (below_step (by repeat (first | (with_reducible first | exact HB.out | apply below_alloc | apply pw_below_drewN | apply below_drew1 | refine below_set ?_ GE583.out) | exact HB.out)) hb); clear HO580; clear HO586; clear HO590; clear BK583; clear HB; have HO580 := n0_; have HO586 := n1_; have HO590 := n2_; have BK583 := n3_; have HB := n4_; clear n0_ n1_ n2_ n3_ n4_; (try clear hb); (try clear hb2); (try clear hk); (try clear hi); obtain ⟨Ao83, co83, eo83⟩ := Kd.R_slice HO586.out; subst eo83; have hcz84_0 : w82.cell? ⟨gb583, 0, none⟩ = some (.int .i64 t581) := (blk_cell BK583.out 0).trans rfl; have hcz84_1 : w82.cell? ⟨gb583, 1, none⟩ = some (.int .i64 t582) := (blk_cell BK583.out 1).trans rfl; have hfz84_0 := blk_frozen BK583.out 0; have hfz84_1 := blk_frozen BK583.out 1) | (go_at_call 21; (with_reducible refine (impl_AccountKind.calls k _ _ t578 t581 t593 _ ?side1 ?side2 A74.out).mono ?_); (case side1 => repeat (first | exact (Kd.R_reads' HO580.out).2.2 | (with_reducible refine Kd.C_alloc ?_ _) | (with_reducible refine Kd.C_drewN ?_ _) | (with_reducible refine Kd.C_drew ?_))); (case side2 => exact (Kd.R_reads' HO580.out).2.1); rintro e w85 ⟨rfl, hb⟩; have n0_ := Aside0.mk (Kd.R_below (by (with_reducible repeat (first | apply Kd.R_alloc | apply Kd.R_drewN | apply Kd.R_drew)); exact HO580.out) hb); have n1_ := Aside0.mk (Kd.R_below (by (with_reducible repeat (first | apply Kd.R_alloc | apply Kd.R_drewN | apply Kd.R_drew)); exact HO586.out) hb); have n2_ := Aside0.mk (Kd.R_below (by (with_reducible repeat (first | apply Kd.R_alloc | apply Kd.R_drewN | apply Kd.R_drew)); exact HO590.out) hb); have n3_ := Aside0.mk (blk_below (g := gb583) (o := .cells #[.int .i64 t581, .int .i64 t582] 44 (0, 0)) (by (with_reducible repeat (first | refine blk_drewN ?_ _ | refine blk_drew ?_ | refine blk_alloc ?_ _)); exact BK583.out) hb); have n4_ := Aside0.mk (below_step (by repeat (first | (with_reducible first | exact HB.out | apply below_alloc | apply pw_below_drewN | apply below_drew1 | refine below_set ?_ GE583.out) | exact HB.out)) hb); clear HO580; clear HO586; clear HO590; clear BK583; clear HB; have HO580 := n0_; have HO586 := n1_; have HO590 := n2_; have BK583 := n3_; have HB := n4_; clear n0_ n1_ n2_ n3_ n4_; (try clear hb); (try clear hb2); (try clear hk); (try clear hi)))
     go_ret
     exact ⟨by first | rfl | (simp [errW_none, errW_some] <;> rfl) | (simp [*, errW_none, errW_some] <;> rfl), by repeat (first | (with_reducible first | exact HB.out | apply below_alloc | apply pw_below_drewN | apply below_drew1 | refine below_set ?_ GE583.out) | exact HB.out)⟩
    ·
     rw [if_neg c73] at H
     exact absurd H (by simp)
def laws_FnChart.Pure : Prop := ∀ (l0 : List Int), l0.length ≤ maxLen → l0.length * 1 ≤ 140737488351232 → (∀ x ∈ l0, (Lit.int .u8 x).wf = true) → ∃ k, laws_FnChart.f k l0 = some true
theorem laws_FnChart.walk (P : laws_FnChart.Pure) (a0 : Option Addr) (len0 cap0 : Nat) (z0 : List Int) (w : World) (w0 : (a0 = none ∧ len0 = 0 ∧ cap0 = 0 ∧ z0 = []) ∨ ∃ x, a0 = some x ∧ len0 ≤ cap0 ∧ cap0 ≤ maxLen ∧ z0.length = cap0 ∧ (∀ i, i < z0.length → w.cell? (x.add i) = some (.int .u8 (z0.getD i 0))) ∧ ∀ n ∈ z0, (Lit.int .u8 n).wf = true) (y0 : len0 * 1 ≤ 140737488351232) :
 Calls Try.prog 9 #[.slice a0 len0 cap0] w fun e w' => e = .returned (.bool true) ∧ Below w.heap.size w w' := by
 obtain ⟨l0, rfl, hr0, hm0, hw0, hc0⟩ := ReadsInt.ofRowC w0
 obtain ⟨k, h⟩ := P l0 hm0 y0 hw0
 refine (laws_FnChart.calls k _ _ l0 true w (Kd.C_of_reads (d := (0 : Int)) (h1 := fun _ => rfl) hr0) hc0 h).mono ?_
 rintro e w' ⟨rfl, hd⟩
 exact ⟨rfl, hd⟩
end Go.Proofs.Ytnfoldoeligfhaa.P
namespace Go.Proofs.Ytnfoldoeligfhaa.EV
open Go Go.RowKit Go.Proofs.YtnfoldoeligfhaaW.PrintWords
theorem w64_in (n : Int) (h0 : -9223372036854775808 ≤ n) (h1 : n ≤ 9223372036854775807) : wrap64 n = n := by unfold wrap64; omega
theorem w_succ {i n : Nat} (h : i < n) (hn : n ≤ 9223372036854775807) : wrap64 ((i : Int) + 1) = ((i + 1 : Nat) : Int) := by unfold wrap64; omega
theorem w_pred {i n : Nat} (h : i < n) (hp : 0 < i) (hn : n ≤ 9223372036854775807) : wrap64 ((i : Int) - 1) = ((i - 1 : Nat) : Int) := by unfold wrap64; omega
theorem Ev_one {α : Type} {g : Nat → Option α} {r : α} (h : ∀ k, g (k + 1) = some r) : Ev g r := ⟨1, fun k hk => by
  obtain ⟨k, rfl⟩ : ∃ m, k = m + 1 := ⟨k - 1, by omega⟩
  exact h k⟩
theorem Ev_all_k {α : Type} {g : Nat → Option α} {r : α} (h : ∀ k, g k = some r) : Ev g r := ⟨0, fun k _ => h k⟩
theorem Ev_bind {α β : Type} {g : Nat → Option α} {f : Nat → α → Option β} {a : α} {r : β} (h : Ev g a) (k : Ev (fun n => f n a) r) : Ev (fun n => (g n).bind (f n)) r := Ev.bind h k
theorem Ev_asks (l : Nat → Int → Option Bool) (n : Nat) (G : Nat → Prop) (fin : Bool) (h0 : Ev (fun k => l k (n : Int)) fin)
    (hs : ∀ i : Nat, i < n → (G i ∧ ∀ k, l (k + 1) (i : Int) = l k ((i + 1 : Nat) : Int)) ∨ (¬ G i ∧ ∀ k, l (k + 1) (i : Int) = some false)) :
    ∀ (d i : Nat), n - i = d → i ≤ n → ∃ r, Ev (fun k => l k (i : Int)) r ∧ (r = true ↔ (∀ j, i ≤ j → j < n → G j) ∧ fin = true) := by
  intro d
  induction d with
  | zero =>
    intro i hd hi
    obtain rfl : i = n := by omega
    exact ⟨fin, h0, ⟨fun h => ⟨fun j h1 h2 => by omega, h⟩, fun h => h.2⟩⟩
  | succ d ih =>
    intro i hd hi
    rcases hs i (by omega) with ⟨hg, he⟩ | ⟨hg, he⟩
    · obtain ⟨r, hr, hiff⟩ := ih (i + 1) (by omega) (by omega)
      refine ⟨r, Ev.step he hr, ?_⟩
      rw [hiff]
      constructor
      · rintro ⟨h1, h2⟩
        refine ⟨fun j h3 h4 => ?_, h2⟩
        rcases Nat.eq_or_lt_of_le h3 with h5 | h5
        · exact h5 ▸ hg
        · exact h1 j h5 h4
      · rintro ⟨h1, h2⟩
        exact ⟨fun j h3 h4 => h1 j (by omega) h4, h2⟩
    · refine ⟨false, Ev_one he, ⟨fun h => Bool.noConfusion h, fun h => absurd (h.1 i (Nat.le_refl _) (by omega)) hg⟩⟩
theorem Ev_goes {σ ρ : Type} (l : Nat → σ → Int → Option ρ) (n : Nat) (F : Nat → σ → ρ) (Inv : Nat → σ → Prop)
    (h0 : ∀ s, Inv n s → Ev (fun k => l k s (n : Int)) (F n s))
    (hs : ∀ (i : Nat) s, i < n → Inv i s → (Ev (fun k => l k s (i : Int)) (F i s)) ∨ ∃ s', Inv (i + 1) s' ∧ F (i + 1) s' = F i s ∧ ∀ k, l (k + 1) s (i : Int) = l k s' ((i + 1 : Nat) : Int)) :
    ∀ (d i : Nat) s, n - i = d → i ≤ n → Inv i s → Ev (fun k => l k s (i : Int)) (F i s) := by
  intro d
  induction d with
  | zero =>
    intro i s hd hi hinv
    obtain rfl : i = n := by omega
    exact h0 s hinv
  | succ d ih =>
    intro i s hd hi hinv
    rcases hs i s (by omega) hinv with h | ⟨s', h1, h2, h3⟩
    · exact h
    · exact h2 ▸ Ev.step h3 (ih (i + 1) s' (by omega) (by omega) h1)
theorem Ev_goes' {σ ρ : Type} (l : Nat → σ → Int → Option ρ) (n : Nat) (F : Nat → σ → ρ) (Inv : Nat → σ → Prop)
    (h0 : ∀ s, Inv n s → Ev (fun k => l k s (n : Int)) (F n s))
    (hs : ∀ (i : Nat) s, i < n → Inv i s → (Ev (fun k => l k s (i : Int)) (F i s)) ∨ ∃ s', Inv (i + 1) s' ∧ F (i + 1) s' = F i s ∧ ∀ r, Ev (fun k => l k s' ((i + 1 : Nat) : Int)) r → Ev (fun k => l k s (i : Int)) r) :
    ∀ (d i : Nat) s, n - i = d → i ≤ n → Inv i s → Ev (fun k => l k s (i : Int)) (F i s) := by
  intro d
  induction d with
  | zero =>
    intro i s hd hi hinv
    obtain rfl : i = n := by omega
    exact h0 s hinv
  | succ d ih =>
    intro i s hd hi hinv
    rcases hs i s (by omega) hinv with h | ⟨s', h1, h2, h3⟩
    · exact h
    · exact h2 ▸ h3 _ (ih (i + 1) s' (by omega) (by omega) h1)
theorem drop_getD {α : Type} (z : α) (l : List α) (i : Nat) (h : i < l.length) : l.drop i = l.getD i z :: l.drop (i + 1) := by
  rw [List.drop_eq_getElem_cons h, List.getD_eq_getElem?_getD, List.getElem?_eq_getElem h]
  rfl
end Go.Proofs.Ytnfoldoeligfhaa.EV
namespace Go.Proofs.Ytnfoldoeligfhaa.U1
theorem getD_get {α : Type} (z : α) (l : List α) (i : Nat) (h : i < l.length) : l.getD i z = l[i] := by
  rw [List.getD_eq_getElem?_getD, List.getElem?_eq_getElem h]
  rfl
theorem adj_pairwise {α : Type} (z : α) (R : α → α → Prop) (tr : ∀ a b c, R a b → R b c → R a c) (l : List α) (h : ∀ j, 0 < j → j < l.length → R (l.getD (j - 1) z) (l.getD j z)) : l.Pairwise R := by
  have key : ∀ (d i j : Nat), j - i = d → i < j → j < l.length → R (l.getD i z) (l.getD j z) := by
    intro d
    induction d with
    | zero => intro i j h1 h2; omega
    | succ d ih =>
      intro i j hd hi hj
      have g := h j (by omega) hj
      rcases Nat.lt_or_ge i (j - 1) with h2 | h2
      · exact tr _ _ _ (ih i (j - 1) (by omega) h2 (by omega)) g
      · obtain rfl : i = j - 1 := by omega
        exact g
  refine List.pairwise_iff_getElem.2 fun i j hi hj hij => ?_
  have g := key (j - i) i j rfl hij hj
  rw [getD_get z l i hi, getD_get z l j hj] at g
  exact g
end Go.Proofs.Ytnfoldoeligfhaa.U1
namespace Go.Proofs.Ytnfoldoeligfhaa.D1
open Go Go.RowKit Go.Proofs.Ytnfoldoeligfhaa.P Go.Proofs.YtnfoldoeligfhaaW.PrintWords Go.Proofs.YtnfoldoeligfhaaW.PrintLast Go.Proofs.Ytnfoldoeligfhaa.EV
theorem and255 (y : Int) : 0 ≤ Go.bits .and .i64 y 255 ∧ Go.bits .and .i64 y 255 ≤ 255 := by
  have h : (BitVec.ofInt IntKind.i64.bits y &&& BitVec.ofInt IntKind.i64.bits 255).toNat ≤ 255 := by
    rw [BitVec.toNat_and]
    exact Nat.le_trans Nat.and_le_right (by decide)
  simp only [Go.bits]
  generalize (BitVec.ofInt IntKind.i64.bits y &&& BitVec.ofInt IntKind.i64.bits 255).toNat = m at *
  rw [IntKind.wrap_i64]
  omega
def V (b : List Int) (i : Int) : Prop := 0 ≤ i ∧ i ≤ b.length ∧ b.length ≤ 140737488351232
theorem byte_ok (b : List Int) (i h : Int) (hv : V b i) : ∃ x i' h', spec_l1Byte.f b i h = some (x, i', h') ∧ 0 ≤ x ∧ x ≤ 255 ∧ V b i' := by
  obtain ⟨h0, h1, h2⟩ := hv
  unfold spec_l1Byte.f
  by_cases hi : i < (b.length : Int)
  · rw [if_pos hi, if_pos h0]
    refine ⟨_, _, _, rfl, (and255 _).1, (and255 _).2, ?_⟩
    rw [w64_in _ (by omega) (by omega)]
    exact ⟨by omega, by omega, h2⟩
  · rw [if_neg hi]
    exact ⟨_, _, _, rfl, (and255 _).1, (and255 _).2, h0, h1, h2⟩
theorem below_ok (b : List Int) (i h n : Int) (hv : V b i) (hn : n ≤ 4294967296) : ∃ x i' h', spec_l1Below.f b i h n = some (x, i', h') ∧ 0 ≤ x ∧ (0 < n → x < n) ∧ (n ≤ 0 → x = 0) ∧ V b i' := by
  unfold spec_l1Below.f
  by_cases h0 : n ≤ 0
  · rw [if_pos h0]
    exact ⟨_, _, _, rfl, by omega, fun h => by omega, fun _ => rfl, hv⟩
  · rw [if_neg h0]
    by_cases h1 : n ≤ 256
    · rw [if_pos h1]
      obtain ⟨x, i1, g1, e1, x0, x1, v1⟩ := byte_ok b i h hv
      rw [e1, Option.bind_some, if_neg (by omega)]
      refine ⟨_, _, _, rfl, ?_, fun _ => ?_, fun h => by omega, v1⟩
      · show 0 ≤ Int.tmod x n
        rw [Int.tmod_eq_emod_of_nonneg x0]
        exact Int.emod_nonneg _ (by omega)
      · show Int.tmod x n < n
        rw [Int.tmod_eq_emod_of_nonneg x0]
        exact Int.emod_lt_of_pos _ (by omega)
    · rw [if_neg h1]
      obtain ⟨x, i1, g1, e1, x0, x1, v1⟩ := byte_ok b i h hv
      rw [e1, Option.bind_some]
      obtain ⟨y, i2, g2, e2, y0, y1, v2⟩ := byte_ok b i1 g1 v1
      simp only [e2, Option.bind_some]
      obtain ⟨z, i3, g3, e3, z0, z1, v3⟩ := byte_ok b i2 g2 v2
      simp only [e3, Option.bind_some]
      obtain ⟨u, i4, g4, e4, u0, u1, v4⟩ := byte_ok b i3 g3 v3
      simp only [e4, Option.bind_some]
      rw [if_neg (by omega), w64_in (x * 16777216) (by omega) (by omega), w64_in (y * 65536) (by omega) (by omega), w64_in (z * 256) (by omega) (by omega),
        w64_in (x * 16777216 + y * 65536) (by omega) (by omega), w64_in (x * 16777216 + y * 65536 + z * 256) (by omega) (by omega), w64_in (x * 16777216 + y * 65536 + z * 256 + u) (by omega) (by omega)]
      refine ⟨_, _, _, rfl, ?_, fun _ => ?_, fun h => by omega, v4⟩
      · rw [Int.tmod_eq_emod_of_nonneg (by omega)]
        exact Int.emod_nonneg _ (by omega)
      · rw [Int.tmod_eq_emod_of_nonneg (by omega)]
        exact Int.emod_lt_of_pos _ (by omega)
theorem new_ok (l : List Int) (hl : l.length ≤ 140737488351232) : ∃ h, Ev (fun k => spec_l1New.f k l) (l, 0, h) := by
  have key : ∀ (d : Nat) (i : Nat) (h : Int), l.length - i = d → i ≤ l.length → ∃ h', Ev (fun k => spec_l1New.l0 k l h (i : Int)) (l, 0, h') := by
    intro d
    induction d with
    | zero =>
      intro i h hd hi
      exact ⟨h, Ev_one fun k => by simp only [spec_l1New.l0]; rw [if_neg (by omega)]⟩
    | succ d ih =>
      intro i h hd hi
      by_cases h4 : (i : Int) < 4000
      · obtain ⟨h', hr⟩ := ih (i + 1) (Go.bits .and .i64 (wrap64 ((wrap64 ((wrap64 (h * 131)) + (wrap64 (rd l (i : Int))))) + 7)) 1073741823) (by omega) (by omega)
        refine ⟨h', Ev.step (fun k => ?_) hr⟩
        simp only [spec_l1New.l0]
        rw [if_pos (by omega), if_pos h4, if_pos (by omega), w_succ (i := i) (n := l.length) (by omega) (by omega)]
      · exact ⟨h, Ev_one fun k => by simp only [spec_l1New.l0]; rw [if_pos (by omega), if_neg h4]⟩
  obtain ⟨h', hr⟩ := key l.length 0 (wrap64 (11029 + (l.length : Int))) (by omega) (by omega)
  exact ⟨h', Ev.congr (fun k => rfl) hr⟩
theorem once_ok (b : List Int) (i h n : Int) (hv : V b i) (hn : n ≤ 4294967296) : ∃ x i' h', spec_l1Once.f b i h n = some (x, i', h') ∧ V b i' := by
  unfold spec_l1Once.f
  obtain ⟨x, i1, g1, e1, _, _, _, v1⟩ := below_ok b i h n hv hn
  rw [e1]
  exact ⟨_, _, _, rfl, v1⟩
theorem pick_ok (b : List Int) (i h : Int) (l : List Int) (hv : V b i) (h0 : 0 < l.length) (hn : l.length ≤ 4294967296) : ∃ x i' h', spec_l1PickInt.f b i h l = some (x, i', h') ∧ x ∈ l ∧ V b i' := by
  unfold spec_l1PickInt.f
  obtain ⟨x, i1, g1, e1, x0, x1, _, v1⟩ := below_ok b i h l.length hv (by omega)
  have x2 := x1 (by omega)
  rw [e1, Option.bind_some, if_pos x0, if_pos x2]
  refine ⟨_, _, _, rfl, ?_, v1⟩
  show rd l x ∈ l
  unfold rd
  rw [List.getD_eq_getElem?_getD, List.getElem?_eq_getElem (by omega)]
  exact List.getElem_mem _
end Go.Proofs.Ytnfoldoeligfhaa.D1
namespace Go.Proofs.Ytnfoldoeligfhaa.I1
open Go Go.RowKit Go.Proofs.Ytnfoldoeligfhaa.P Go.Proofs.YtnfoldoeligfhaaW.PrintWords Go.Proofs.YtnfoldoeligfhaaW.PrintLast
theorem in_i (a lo hi : Int) : impl_in.f a lo hi = some (decide (lo ≤ a ∧ a ≤ hi)) := by
  unfold impl_in.f
  by_cases h : a ≥ lo
  · rw [if_pos h]
    congr 1
    rw [Bool.eq_iff_iff, decide_eq_true_iff, decide_eq_true_iff]
    omega
  · rw [if_neg h]
    congr 1
    symm
    rw [decide_eq_false_iff_not]
    omega
theorem in_s (a lo hi : Int) : spec_l1In.f a lo hi = some (decide (lo ≤ a ∧ a ≤ hi)) := by
  unfold spec_l1In.f
  by_cases h : a ≥ lo
  · rw [if_pos h]
    congr 1
    rw [Bool.eq_iff_iff, decide_eq_true_iff, decide_eq_true_iff]
    omega
  · rw [if_neg h]
    congr 1
    symm
    rw [decide_eq_false_iff_not]
    omega
end Go.Proofs.Ytnfoldoeligfhaa.I1
namespace Go.Proofs.Ytnfoldoeligfhaa.C1
open Go Go.RowKit Go.Proofs.Ytnfoldoeligfhaa.P Go.Proofs.YtnfoldoeligfhaaW.PrintWords Go.Proofs.YtnfoldoeligfhaaW.PrintLast Go.Proofs.Ytnfoldoeligfhaa.EV Go.Proofs.Ytnfoldoeligfhaa.I1
theorem no_s (a : Int) : spec_l3No.f a = some (decide (1 ≤ a ∧ a ≤ 1000)) := by unfold spec_l3No.f; rw [in_s]; rfl
theorem no_i (a : Int) : impl_isNo.f a = some (decide (1 ≤ a ∧ a ≤ 1000)) := by unfold impl_isNo.f; rw [in_i]; rfl
def GoodA (l : List S44) (j : Nat) : Prop :=
  (1 ≤ (l.getD j z44).f0 ∧ (l.getD j z44).f0 ≤ 1000) ∧ (1 ≤ (l.getD j z44).f1 ∧ (l.getD j z44).f1 ≤ 4) ∧ (0 < j → (l.getD (j - 1) z44).f0 < (l.getD j z44).f0)
def OkA (l : List S44) : Prop := l.length ≤ 20 ∧ ∀ j, j < l.length → GoodA l j
noncomputable def okA (l : List S44) : Bool := @decide (OkA l) (Classical.propDecidable _)
theorem okA_iff (l : List S44) : okA l = true ↔ OkA l := by unfold okA; exact @decide_eq_true_iff _ (Classical.propDecidable _)
theorem rdA (l : List S44) (i : Nat) : rd_T44 l (i : Int) = l.getD i z44 := by unfold rd_T44; rw [Int.toNat_natCast]
theorem accountsOk_s (l : List S44) : Ev (fun k => spec_AccountsOk.f k l) (okA l) := by
  unfold spec_AccountsOk.f
  by_cases hn : (l.length : Int) > 20
  · have : okA l = false := by
      rw [Bool.eq_false_iff, Ne, okA_iff]
      intro h
      have := h.1
      omega
    rw [this]
    exact Ev_all_k fun k => by rw [if_pos hn]
  · obtain ⟨r, hr, hiff⟩ := Ev_asks (fun k i => spec_AccountsOk.l0 k l i) l.length (GoodA l) true
      (Ev_one fun k => by simp only [spec_AccountsOk.l0]; rw [if_neg (by omega)])
      (fun i hi => by
        have e : ∀ k, spec_AccountsOk.l0 (k + 1) l (i : Int) = if (1 ≤ (l.getD i z44).f0 ∧ (l.getD i z44).f0 ≤ 1000) then (if (1 ≤ (l.getD i z44).f1 ∧ (l.getD i z44).f1 ≤ 4) then (if 0 < i then (if (l.getD (i - 1) z44).f0 < (l.getD i z44).f0 then spec_AccountsOk.l0 k l ((i + 1 : Nat) : Int) else some false) else spec_AccountsOk.l0 k l ((i + 1 : Nat) : Int)) else some false) else some false := by
          intro k
          simp only [spec_AccountsOk.l0]
          rw [if_pos (by omega), if_pos (by omega)]
          rw [w_succ hi (by omega)]
          by_cases h0 : 0 < i
          · rw [w_pred hi h0 (by omega)]
            simp only [no_s, in_s, Option.bind_some, decide_eq_true_iff, rdA]
            split
            · split
              · rw [if_pos (by omega), if_pos (by omega), if_pos (by omega)]
                split
                · rw [if_neg (by omega)]
                · rw [if_pos (by omega)]
              · rfl
            · rfl
          · simp only [no_s, in_s, Option.bind_some, decide_eq_true_iff, rdA]
            split
            · split
              · rw [if_neg (by omega)]
              · rfl
            · rfl
        by_cases hg : GoodA l i
        · refine .inl ⟨hg, fun k => ?_⟩
          show spec_AccountsOk.l0 (k + 1) l (i : Int) = _
          rw [e k, if_pos hg.1, if_pos hg.2.1]
          split
          · rename_i h0
            rw [if_pos (hg.2.2 h0)]
          · rfl
        · refine .inr ⟨hg, fun k => ?_⟩
          show spec_AccountsOk.l0 (k + 1) l (i : Int) = _
          rw [e k]
          unfold GoodA at hg
          split
          · rename_i h1
            split
            · rename_i h2
              split
              · rename_i h3
                rw [if_neg (fun h4 => hg ⟨h1, h2, fun _ => h4⟩)]
              · rename_i h3
                exact absurd ⟨h1, h2, fun h4 => absurd h4 h3⟩ hg
            · rfl
          · rfl) l.length 0 (by omega) (by omega)
    have hq : r = okA l := by
      rw [Bool.eq_iff_iff, hiff, okA_iff]
      exact ⟨fun h => ⟨by omega, fun j hj => h.1 j (Nat.zero_le _) hj⟩, fun h => ⟨fun j _ hj => h.2 j hj, rfl⟩⟩
    subst hq
    exact Ev.congr (fun k => by rw [if_neg hn]; rfl) hr
theorem accountsOk_i (l : List S44) (hm : l.length ≤ 9223372036854775807) : Ev (fun k => impl_AccountsOk.f k l) (okA l) := by
  unfold impl_AccountsOk.f
  obtain ⟨r, hr, hiff⟩ := Ev_asks (fun k i => impl_AccountsOk.l0 k l l (l.length : Int) i) l.length (GoodA l) (decide ((l.length : Int) ≤ 20))
      (Ev_one fun k => by simp only [impl_AccountsOk.l0]; rw [if_neg (by omega)])
      (fun i hi => by
        have e : ∀ k, impl_AccountsOk.l0 (k + 1) l l (l.length : Int) (i : Int) = if (1 ≤ (l.getD i z44).f0 ∧ (l.getD i z44).f0 ≤ 1000) then (if (1 ≤ (l.getD i z44).f1 ∧ (l.getD i z44).f1 ≤ 4) then (if 0 < i then (if (l.getD (i - 1) z44).f0 < (l.getD i z44).f0 then impl_AccountsOk.l0 k l l (l.length : Int) ((i + 1 : Nat) : Int) else some false) else impl_AccountsOk.l0 k l l (l.length : Int) ((i + 1 : Nat) : Int)) else some false) else some false := by
          intro k
          simp only [impl_AccountsOk.l0]
          rw [if_pos (by omega), if_pos (by omega), if_pos (by omega)]
          rw [w_succ hi (by omega)]
          by_cases h0 : 0 < i
          · rw [w_pred hi h0 (by omega)]
            simp only [no_i, in_i, Option.bind_some, decide_eq_true_iff, rdA]
            split
            · split
              · rw [if_pos (by omega), if_pos (by omega), if_pos (by omega)]
                split
                · rw [if_neg (by omega)]
                · rw [if_pos (by omega)]
              · rfl
            · rfl
          · simp only [no_i, in_i, Option.bind_some, decide_eq_true_iff, rdA]
            split
            · split
              · rw [if_neg (by omega)]
              · rfl
            · rfl
        by_cases hg : GoodA l i
        · refine .inl ⟨hg, fun k => ?_⟩
          show impl_AccountsOk.l0 (k + 1) l l (l.length : Int) (i : Int) = _
          rw [e k, if_pos hg.1, if_pos hg.2.1]
          split
          · rename_i h0
            rw [if_pos (hg.2.2 h0)]
          · rfl
        · refine .inr ⟨hg, fun k => ?_⟩
          show impl_AccountsOk.l0 (k + 1) l l (l.length : Int) (i : Int) = _
          rw [e k]
          unfold GoodA at hg
          split
          · rename_i h1
            split
            · rename_i h2
              split
              · rename_i h3
                rw [if_neg (fun h4 => hg ⟨h1, h2, fun _ => h4⟩)]
              · rename_i h3
                exact absurd ⟨h1, h2, fun h4 => absurd h4 h3⟩ hg
            · rfl
          · rfl) l.length 0 (by omega) (by omega)
  have hq : r = okA l := by
    rw [Bool.eq_iff_iff, hiff, okA_iff, decide_eq_true_iff]
    exact ⟨fun h => ⟨by omega, fun j hj => h.1 j (Nat.zero_le _) hj⟩, fun h => ⟨fun j _ hj => h.2 j hj, by have := h.1; omega⟩⟩
  subst hq
  exact hr
def GoodI (l : List S50) (j : Nat) : Prop :=
  (1 ≤ (l.getD j z50).f0 ∧ (l.getD j z50).f0 ≤ 1000) ∧ (1 ≤ (l.getD j z50).f1 ∧ (l.getD j z50).f1 ≤ 2) ∧ (0 < j → (l.getD (j - 1) z50).f0 < (l.getD j z50).f0)
def OkI (l : List S50) : Prop := l.length ≤ 8 ∧ ∀ j, j < l.length → GoodI l j
noncomputable def okI (l : List S50) : Bool := @decide (OkI l) (Classical.propDecidable _)
theorem okI_iff (l : List S50) : okI l = true ↔ OkI l := by unfold okI; exact @decide_eq_true_iff _ (Classical.propDecidable _)
theorem rdI (l : List S50) (i : Nat) : rd_T50 l (i : Int) = l.getD i z50 := by unfold rd_T50; rw [Int.toNat_natCast]
theorem instrsOk_s (l : List S50) : Ev (fun k => spec_InstrsOk.f k l) (okI l) := by
  unfold spec_InstrsOk.f
  by_cases hn : (l.length : Int) > 8
  · have : okI l = false := by
      rw [Bool.eq_false_iff, Ne, okI_iff]
      intro h
      have := h.1
      omega
    rw [this]
    exact Ev_all_k fun k => by rw [if_pos hn]
  · obtain ⟨r, hr, hiff⟩ := Ev_asks (fun k i => spec_InstrsOk.l0 k l i) l.length (GoodI l) true
      (Ev_one fun k => by simp only [spec_InstrsOk.l0]; rw [if_neg (by omega)])
      (fun i hi => by
        have e : ∀ k, spec_InstrsOk.l0 (k + 1) l (i : Int) = if (1 ≤ (l.getD i z50).f0 ∧ (l.getD i z50).f0 ≤ 1000) then (if (1 ≤ (l.getD i z50).f1 ∧ (l.getD i z50).f1 ≤ 2) then (if 0 < i then (if (l.getD (i - 1) z50).f0 < (l.getD i z50).f0 then spec_InstrsOk.l0 k l ((i + 1 : Nat) : Int) else some false) else spec_InstrsOk.l0 k l ((i + 1 : Nat) : Int)) else some false) else some false := by
          intro k
          simp only [spec_InstrsOk.l0]
          rw [if_pos (by omega), if_pos (by omega)]
          rw [w_succ hi (by omega)]
          by_cases h0 : 0 < i
          · rw [w_pred hi h0 (by omega)]
            simp only [no_s, in_s, Option.bind_some, decide_eq_true_iff, rdI]
            split
            · split
              · rw [if_pos (by omega), if_pos (by omega), if_pos (by omega)]
                split
                · rw [if_neg (by omega)]
                · rw [if_pos (by omega)]
              · rfl
            · rfl
          · simp only [no_s, in_s, Option.bind_some, decide_eq_true_iff, rdI]
            split
            · split
              · rw [if_neg (by omega)]
              · rfl
            · rfl
        by_cases hg : GoodI l i
        · refine .inl ⟨hg, fun k => ?_⟩
          show spec_InstrsOk.l0 (k + 1) l (i : Int) = _
          rw [e k, if_pos hg.1, if_pos hg.2.1]
          split
          · rename_i h0
            rw [if_pos (hg.2.2 h0)]
          · rfl
        · refine .inr ⟨hg, fun k => ?_⟩
          show spec_InstrsOk.l0 (k + 1) l (i : Int) = _
          rw [e k]
          unfold GoodI at hg
          split
          · rename_i h1
            split
            · rename_i h2
              split
              · rename_i h3
                rw [if_neg (fun h4 => hg ⟨h1, h2, fun _ => h4⟩)]
              · rename_i h3
                exact absurd ⟨h1, h2, fun h4 => absurd h4 h3⟩ hg
            · rfl
          · rfl) l.length 0 (by omega) (by omega)
    have hq : r = okI l := by
      rw [Bool.eq_iff_iff, hiff, okI_iff]
      exact ⟨fun h => ⟨by omega, fun j hj => h.1 j (Nat.zero_le _) hj⟩, fun h => ⟨fun j _ hj => h.2 j hj, rfl⟩⟩
    subst hq
    exact Ev.congr (fun k => by rw [if_neg hn]; rfl) hr
theorem instrsOk_i (l : List S50) (hm : l.length ≤ 9223372036854775807) : Ev (fun k => impl_InstrsOk.f k l) (okI l) := by
  unfold impl_InstrsOk.f
  obtain ⟨r, hr, hiff⟩ := Ev_asks (fun k i => impl_InstrsOk.l0 k l l (l.length : Int) i) l.length (GoodI l) (decide ((l.length : Int) ≤ 8))
      (Ev_one fun k => by simp only [impl_InstrsOk.l0]; rw [if_neg (by omega)])
      (fun i hi => by
        have e : ∀ k, impl_InstrsOk.l0 (k + 1) l l (l.length : Int) (i : Int) = if (1 ≤ (l.getD i z50).f0 ∧ (l.getD i z50).f0 ≤ 1000) then (if (1 ≤ (l.getD i z50).f1 ∧ (l.getD i z50).f1 ≤ 2) then (if 0 < i then (if (l.getD (i - 1) z50).f0 < (l.getD i z50).f0 then impl_InstrsOk.l0 k l l (l.length : Int) ((i + 1 : Nat) : Int) else some false) else impl_InstrsOk.l0 k l l (l.length : Int) ((i + 1 : Nat) : Int)) else some false) else some false := by
          intro k
          simp only [impl_InstrsOk.l0]
          rw [if_pos (by omega), if_pos (by omega), if_pos (by omega)]
          rw [w_succ hi (by omega)]
          by_cases h0 : 0 < i
          · rw [w_pred hi h0 (by omega)]
            simp only [no_i, in_i, Option.bind_some, decide_eq_true_iff, rdI]
            split
            · split
              · rw [if_pos (by omega), if_pos (by omega), if_pos (by omega)]
                split
                · rw [if_neg (by omega)]
                · rw [if_pos (by omega)]
              · rfl
            · rfl
          · simp only [no_i, in_i, Option.bind_some, decide_eq_true_iff, rdI]
            split
            · split
              · rw [if_neg (by omega)]
              · rfl
            · rfl
        by_cases hg : GoodI l i
        · refine .inl ⟨hg, fun k => ?_⟩
          show impl_InstrsOk.l0 (k + 1) l l (l.length : Int) (i : Int) = _
          rw [e k, if_pos hg.1, if_pos hg.2.1]
          split
          · rename_i h0
            rw [if_pos (hg.2.2 h0)]
          · rfl
        · refine .inr ⟨hg, fun k => ?_⟩
          show impl_InstrsOk.l0 (k + 1) l l (l.length : Int) (i : Int) = _
          rw [e k]
          unfold GoodI at hg
          split
          · rename_i h1
            split
            · rename_i h2
              split
              · rename_i h3
                rw [if_neg (fun h4 => hg ⟨h1, h2, fun _ => h4⟩)]
              · rename_i h3
                exact absurd ⟨h1, h2, fun h4 => absurd h4 h3⟩ hg
            · rfl
          · rfl) l.length 0 (by omega) (by omega)
  have hq : r = okI l := by
    rw [Bool.eq_iff_iff, hiff, okI_iff, decide_eq_true_iff]
    exact ⟨fun h => ⟨by omega, fun j hj => h.1 j (Nat.zero_le _) hj⟩, fun h => ⟨fun j _ hj => h.2 j hj, by have := h.1; omega⟩⟩
  subst hq
  exact hr
end Go.Proofs.Ytnfoldoeligfhaa.C1
namespace Go.Proofs.Ytnfoldoeligfhaa.C2
open Go Go.RowKit Go.Proofs.Ytnfoldoeligfhaa.P Go.Proofs.YtnfoldoeligfhaaW.PrintWords Go.Proofs.YtnfoldoeligfhaaW.PrintLast Go.Proofs.Ytnfoldoeligfhaa.EV Go.Proofs.Ytnfoldoeligfhaa.I1 Go.Proofs.Ytnfoldoeligfhaa.C1
def kindA : List S44 → Int → Int
  | [], _ => 0
  | x :: l, no => if x.f0 = no then x.f1 else kindA l no
theorem kindL_i (l : List S44) (no : Int) (hm : l.length ≤ 9223372036854775807) : Ev (fun k => impl_accountKind.f k l no) (kindA l no) := by
  unfold impl_accountKind.f
  have h := Ev_goes (fun k (_ : Unit) i => impl_accountKind.l0 k no l (l.length : Int) i) l.length (fun i _ => kindA (l.drop i) no) (fun _ _ => True)
    (fun s hs => Ev_one fun k => by
      simp only [impl_accountKind.l0]
      rw [if_neg (by omega), List.drop_length]
      rfl)
    (fun i s hi _ => by
      have hd : l.drop i = l.getD i z44 :: l.drop (i + 1) := by
        rw [List.drop_eq_getElem_cons hi, List.getD_eq_getElem?_getD, List.getElem?_eq_getElem hi]
        rfl
      have e : ∀ k, impl_accountKind.l0 (k + 1) no l (l.length : Int) (i : Int) = if (l.getD i z44).f0 = no then some (l.getD i z44).f1 else impl_accountKind.l0 k no l (l.length : Int) ((i + 1 : Nat) : Int) := by
        intro k
        simp only [impl_accountKind.l0]
        rw [if_pos (by omega), if_pos (by omega), if_pos (by omega), w_succ hi (by omega)]
        simp only [rdA]
      by_cases hq : (l.getD i z44).f0 = no
      · refine .inl (Ev_one fun k => ?_)
        show impl_accountKind.l0 (k + 1) no l (l.length : Int) (i : Int) = some (kindA (l.drop i) no)
        rw [e, if_pos hq, hd]
        unfold kindA
        rw [if_pos hq]
      · refine .inr ⟨(), trivial, ?_, fun k => ?_⟩
        · show kindA (l.drop (i + 1)) no = kindA (l.drop i) no
          rw [hd]
          conv => rhs; unfold kindA
          rw [if_neg hq]
        · show impl_accountKind.l0 (k + 1) no l (l.length : Int) (i : Int) = _
          rw [e, if_neg hq]) l.length 0 () (by omega) (by omega) trivial
  exact h
noncomputable def kindOkA (l : List S44) (no : Int) : Int := if okA l = true then kindA l no else 0
theorem kindOkA_i (l : List S44) (no : Int) (hm : l.length ≤ 9223372036854775807) : Ev (fun k => impl_AccountKind.f k l no) (kindOkA l no) := by
  unfold impl_AccountKind.f
  refine Ev_bind (accountsOk_i l hm) ?_
  unfold kindOkA
  cases okA l with
  | true =>
    refine Ev.congr (fun k => if_pos rfl) ?_
    rw [if_pos rfl]
    exact Ev_bind (kindL_i l no hm) (Ev.now _)
  | false => exact Ev_all_k fun k => by rw [if_neg (by decide), if_neg (by decide)]
def kindI : List S50 → Int → Int
  | [], _ => 0
  | x :: l, no => if x.f0 = no then x.f1 else kindI l no
theorem kindM_i (l : List S50) (no : Int) (hm : l.length ≤ 9223372036854775807) : Ev (fun k => impl_instrKind.f k l no) (kindI l no) := by
  unfold impl_instrKind.f
  have h := Ev_goes (fun k (_ : Unit) i => impl_instrKind.l0 k no l (l.length : Int) i) l.length (fun i _ => kindI (l.drop i) no) (fun _ _ => True)
    (fun s hs => Ev_one fun k => by
      simp only [impl_instrKind.l0]
      rw [if_neg (by omega), List.drop_length]
      rfl)
    (fun i s hi _ => by
      have hd : l.drop i = l.getD i z50 :: l.drop (i + 1) := by
        rw [List.drop_eq_getElem_cons hi, List.getD_eq_getElem?_getD, List.getElem?_eq_getElem hi]
        rfl
      have e : ∀ k, impl_instrKind.l0 (k + 1) no l (l.length : Int) (i : Int) = if (l.getD i z50).f0 = no then some (l.getD i z50).f1 else impl_instrKind.l0 k no l (l.length : Int) ((i + 1 : Nat) : Int) := by
        intro k
        simp only [impl_instrKind.l0]
        rw [if_pos (by omega), if_pos (by omega), if_pos (by omega), w_succ hi (by omega)]
        simp only [rdI]
      by_cases hq : (l.getD i z50).f0 = no
      · refine .inl (Ev_one fun k => ?_)
        show impl_instrKind.l0 (k + 1) no l (l.length : Int) (i : Int) = some (kindI (l.drop i) no)
        rw [e, if_pos hq, hd]
        unfold kindI
        rw [if_pos hq]
      · refine .inr ⟨(), trivial, ?_, fun k => ?_⟩
        · show kindI (l.drop (i + 1)) no = kindI (l.drop i) no
          rw [hd]
          conv => rhs; unfold kindI
          rw [if_neg hq]
        · show impl_instrKind.l0 (k + 1) no l (l.length : Int) (i : Int) = _
          rw [e, if_neg hq]) l.length 0 () (by omega) (by omega) trivial
  exact h
noncomputable def kindOkI (l : List S50) (no : Int) : Int := if okI l = true then kindI l no else 0
theorem kindOkI_i (l : List S50) (no : Int) (hm : l.length ≤ 9223372036854775807) : Ev (fun k => impl_InstrKind.f k l no) (kindOkI l no) := by
  unfold impl_InstrKind.f
  refine Ev_bind (instrsOk_i l hm) ?_
  unfold kindOkI
  cases okI l with
  | true =>
    refine Ev.congr (fun k => if_pos rfl) ?_
    rw [if_pos rfl]
    exact Ev_bind (kindM_i l no hm) (Ev.now _)
  | false => exact Ev_all_k fun k => by rw [if_neg (by decide), if_neg (by decide)]
end Go.Proofs.Ytnfoldoeligfhaa.C2
namespace Go.Proofs.Ytnfoldoeligfhaa.P1
open Go Go.RowKit Go.Proofs.Ytnfoldoeligfhaa.P Go.Proofs.YtnfoldoeligfhaaW.PrintWords Go.Proofs.YtnfoldoeligfhaaW.PrintLast Go.Proofs.Ytnfoldoeligfhaa.EV Go.Proofs.Ytnfoldoeligfhaa.I1 Go.Proofs.Ytnfoldoeligfhaa.C1
theorem take_getD {α : Type} (z : α) (l : List α) (i : Nat) (h : i < l.length) : l.take (i + 1) = l.take i ++ [l.getD i z] := by
  rw [List.take_add_one, List.getD_eq_getElem?_getD, List.getElem?_eq_getElem h]
  rfl
def posA : List S44 → Int → Nat
  | [], _ => 0
  | x :: l, no => if x.f0 < no then posA l no + 1 else 0
theorem posA_le : ∀ (l : List S44) (no : Int), posA l no ≤ l.length
  | [], _ => Nat.le_refl 0
  | x :: l, no => by
    have := posA_le l no
    unfold posA
    rw [List.length_cons]
    split <;> omega
theorem posA_lt : ∀ (l : List S44) (no : Int) (i : Nat), i < posA l no → (l.getD i z44).f0 < no
  | [], _, i, h => absurd h (Nat.not_lt_zero _)
  | x :: l, no, i, h => by
    unfold posA at h
    split at h
    · rename_i hx
      cases i with
      | zero => exact hx
      | succ i => exact posA_lt l no i (by omega)
    · exact absurd h (Nat.not_lt_zero _)
theorem posA_at : ∀ (l : List S44) (no : Int), posA l no < l.length → ¬ (l.getD (posA l no) z44).f0 < no
  | [], _, h => absurd h (Nat.not_lt_zero _)
  | x :: l, no, h => by
    unfold posA at h ⊢
    split
    · rename_i hx
      rw [if_pos hx, List.length_cons] at h
      exact posA_at l no (by omega)
    · rename_i hx
      exact hx
def insA (l : List S44) (a : S44) : List S44 := l.take (posA l a.f0) ++ [a] ++ l.drop (posA l a.f0)
theorem insA_len (l : List S44) (a : S44) : (insA l a).length = l.length + 1 := by
  have := posA_le l a.f0
  unfold insA
  simp
  omega
noncomputable def putA (l : List S44) (a : S44) : List S44 × Bool := if okA l = true then (if okA (insA l a) = true then (insA l a, true) else (l, false)) else ([], false)
theorem putA_i (l : List S44) (a : S44) (hm : l.length ≤ 1048576) : Ev (fun k => impl_AccountPut.f k l a.f0 a.f1) (putA l a) := by
  unfold impl_AccountPut.f putA
  refine Ev_bind (accountsOk_i l (by omega)) ?_
  cases okA l with
  | false => exact Ev_all_k fun k => by rw [if_neg (by decide), if_neg (by decide)]
  | true =>
    refine Ev.congr (fun k => if_pos rfl) ?_
    rw [if_pos rfl]
    have hp := posA_le l a.f0
    have hcl : ∀ x : List S44, x.length ≤ 1048577 → impl_Account_46.f x = some x := fun x hx => by
      unfold impl_Account_46.f
      rw [Option.bind_some, List.length_nil, if_pos (by omega), List.nil_append]
    have hend : Ev (fun k => impl_AccountPut.j1 k l ((posA l a.f0 : Nat) : Int) a.f0 a.f1) (if okA (insA l a) = true then (insA l a, true) else (l, false)) := by
      refine Ev.step (f := fun k => (impl_AccountsOk.f k (insA l a)).bind fun t => (if t = true then (some (insA l a, true)) else (some (l, false)))) (fun k => ?_) ?_
      · simp only [impl_AccountPut.j1]
        rw [hcl l (by omega), Option.bind_some]
        unfold impl_Account_45.f
        rw [if_pos ⟨by omega, by omega, rfl, by omega⟩, Option.bind_some, Int.toNat_natCast]
        rfl
      · refine Ev_bind (accountsOk_i _ (by rw [insA_len]; omega)) ?_
        exact Ev_all_k fun k => by cases okA (insA l a) <;> rfl
    exact Ev_goes (fun k (_ : Unit) i => impl_AccountPut.l0 k l i a.f0 a.f1) (posA l a.f0) (fun _ _ => if okA (insA l a) = true then (insA l a, true) else (l, false)) (fun _ _ => True)
      (fun s _ => by
        refine Ev.step (f := fun k => impl_AccountPut.j1 k l ((posA l a.f0 : Nat) : Int) a.f0 a.f1) (fun k => ?_) hend
        show impl_AccountPut.l0 (k + 1) l _ a.f0 a.f1 = _
        simp only [impl_AccountPut.l0]
        by_cases h : posA l a.f0 < l.length
        · rw [if_pos (by omega), if_pos (by omega), rdA, if_neg (posA_at l a.f0 h)]
        · rw [if_neg (by omega)])
      (fun i s hi _ => .inr ⟨(), trivial, rfl, fun k => by
        show impl_AccountPut.l0 (k + 1) l (i : Int) a.f0 a.f1 = _
        simp only [impl_AccountPut.l0]
        rw [if_pos (by omega), if_pos (by omega), rdA, if_pos (posA_lt l a.f0 i hi), w_succ (n := l.length) (by omega) (by omega)]⟩) (posA l a.f0) 0 () (by omega) (by omega) trivial
theorem putA_s (l : List S44) (a : S44) (hm : l.length ≤ 1048576) : Ev (fun k => spec_AccountPut.f k l a.f0 a.f1) (putA l a) := by
  unfold spec_AccountPut.f putA
  refine Ev_bind (accountsOk_s l) ?_
  cases okA l with
  | false => exact Ev_all_k fun k => by rw [if_neg (by decide), if_neg (by decide)]
  | true =>
    refine Ev.congr (fun k => if_pos rfl) ?_
    rw [if_pos rfl]
    have hp := posA_le l a.f0
    exact Ev_goes (fun k (s : List S44 × Bool) i => spec_AccountPut.l0 k l s.1 s.2 i a.f0 a.f1) l.length (fun _ _ => if okA (insA l a) = true then (insA l a, true) else (l, false))
      (fun i s => s = if i ≤ posA l a.f0 then (l.take i, false) else (l.take (posA l a.f0) ++ [a] ++ (l.drop (posA l a.f0)).take (i - posA l a.f0), true))
      (fun s hs => by
        by_cases h : l.length ≤ posA l a.f0
        · rw [if_pos h] at hs
          subst hs
          have e : insA l a = l ++ [a] := by
            unfold insA
            rw [show posA l a.f0 = l.length by omega, List.take_length, List.drop_length, List.append_nil]
          refine Ev.step (f := fun k => (spec_AccountsOk.f k (insA l a)).bind fun t => (if t = true then (some (insA l a, true)) else (some (l, false)))) (fun k => ?_) (Ev_bind (accountsOk_s _) (Ev_all_k fun k => by cases okA (insA l a) <;> rfl))
          show spec_AccountPut.l0 (k + 1) l (l.take l.length) false (l.length : Int) a.f0 a.f1 = _
          rw [List.take_length]
          simp only [spec_AccountPut.l0]
          rw [if_neg (by omega), if_neg (by decide), if_pos (by omega), Option.bind_some]
          simp only [Option.bind_some, List.length_nil, List.nil_append]
          rw [if_pos (show 0 + l.length < 8796093022208 by omega), e]
        · rw [if_neg h] at hs
          subst hs
          have e : l.take (posA l a.f0) ++ [a] ++ (l.drop (posA l a.f0)).take (l.length - posA l a.f0) = insA l a := by
            unfold insA
            rw [List.take_of_length_le (l := l.drop (posA l a.f0)) (by rw [List.length_drop]; exact Nat.le_refl _)]
          refine Ev.step (f := fun k => (spec_AccountsOk.f k (insA l a)).bind fun t => (if t = true then (some (insA l a, true)) else (some (l, false)))) (fun k => ?_) (Ev_bind (accountsOk_s _) (Ev_all_k fun k => by cases okA (insA l a) <;> rfl))
          show spec_AccountPut.l0 (k + 1) l (l.take (posA l a.f0) ++ [a] ++ (l.drop (posA l a.f0)).take (l.length - posA l a.f0)) true (l.length : Int) a.f0 a.f1 = _
          rw [e]
          simp only [spec_AccountPut.l0]
          rw [if_neg (by omega), if_pos trivial]
          simp only [Option.bind_some, List.length_nil, List.nil_append]
          rw [if_pos (show 0 + l.length < 8796093022208 by omega)])
      (fun i s hi hs => by
        refine .inr ⟨_, rfl, rfl, fun k => ?_⟩
        by_cases h1 : i < posA l a.f0
        · rw [if_pos (by omega)] at hs
          subst hs
          rw [if_pos (by omega), take_getD z44 l i hi]
          show spec_AccountPut.l0 (k + 1) l (l.take i) false (i : Int) a.f0 a.f1 = _
          have := posA_lt l a.f0 i h1
          simp only [spec_AccountPut.l0]
          rw [if_pos (by omega), if_neg (by decide), if_pos (by omega), rdA, if_neg (by omega), if_pos (by rw [List.length_take]; omega), w_succ hi (by omega)]
        · by_cases h2 : i = posA l a.f0
          · rw [if_pos (by omega)] at hs
            subst hs
            have h3 := posA_at l a.f0 (by omega)
            rw [← h2] at h3
            rw [if_neg (by omega), ← h2, show i + 1 - i = 0 + 1 by omega, drop_getD z44 l i hi, List.take_succ_cons, List.take_zero]
            show spec_AccountPut.l0 (k + 1) l (l.take i) false (i : Int) a.f0 a.f1 = _
            simp only [spec_AccountPut.l0]
            rw [if_pos (by omega), if_neg (by decide), if_pos (by omega), rdA, if_pos (by omega), if_pos (by rw [List.length_take]; omega), Option.bind_some, if_pos (by simp; omega), w_succ hi (by omega)]
          · rw [if_neg (by omega)] at hs
            subst hs
            have hg : ((l.drop (posA l a.f0)).take (i + 1 - posA l a.f0)) = (l.drop (posA l a.f0)).take (i - posA l a.f0) ++ [l.getD i z44] := by
              rw [show i + 1 - posA l a.f0 = (i - posA l a.f0) + 1 by omega, take_getD z44 _ _ (by rw [List.length_drop]; omega)]
              congr 2
              rw [List.getD_eq_getElem?_getD, List.getElem?_drop, List.getD_eq_getElem?_getD]
              congr 2
              omega
            rw [if_neg (by omega), hg]
            show spec_AccountPut.l0 (k + 1) l (l.take (posA l a.f0) ++ [a] ++ (l.drop (posA l a.f0)).take (i - posA l a.f0)) true (i : Int) a.f0 a.f1 = _
            simp only [spec_AccountPut.l0]
            rw [if_pos (by omega), if_pos trivial, if_pos (by omega), if_pos (by simp; omega), rdA, w_succ hi (by omega), List.append_assoc _ _ [l.getD i z44]]) l.length 0 ([], false) (by omega) (by omega) (by rw [if_pos (by omega)]; rfl)
def posI : List S50 → Int → Nat
  | [], _ => 0
  | x :: l, no => if x.f0 < no then posI l no + 1 else 0
theorem posI_le : ∀ (l : List S50) (no : Int), posI l no ≤ l.length
  | [], _ => Nat.le_refl 0
  | x :: l, no => by
    have := posI_le l no
    unfold posI
    rw [List.length_cons]
    split <;> omega
theorem posI_lt : ∀ (l : List S50) (no : Int) (i : Nat), i < posI l no → (l.getD i z50).f0 < no
  | [], _, i, h => absurd h (Nat.not_lt_zero _)
  | x :: l, no, i, h => by
    unfold posI at h
    split at h
    · rename_i hx
      cases i with
      | zero => exact hx
      | succ i => exact posI_lt l no i (by omega)
    · exact absurd h (Nat.not_lt_zero _)
theorem posI_at : ∀ (l : List S50) (no : Int), posI l no < l.length → ¬ (l.getD (posI l no) z50).f0 < no
  | [], _, h => absurd h (Nat.not_lt_zero _)
  | x :: l, no, h => by
    unfold posI at h ⊢
    split
    · rename_i hx
      rw [if_pos hx, List.length_cons] at h
      exact posI_at l no (by omega)
    · rename_i hx
      exact hx
def insI (l : List S50) (a : S50) : List S50 := l.take (posI l a.f0) ++ [a] ++ l.drop (posI l a.f0)
theorem insI_len (l : List S50) (a : S50) : (insI l a).length = l.length + 1 := by
  have := posI_le l a.f0
  unfold insI
  simp
  omega
noncomputable def putI (l : List S50) (a : S50) : List S50 × Bool := if okI l = true then (if okI (insI l a) = true then (insI l a, true) else (l, false)) else ([], false)
theorem putI_i (l : List S50) (a : S50) (hm : l.length ≤ 1048576) : Ev (fun k => impl_InstrPut.f k l a.f0 a.f1) (putI l a) := by
  unfold impl_InstrPut.f putI
  refine Ev_bind (instrsOk_i l (by omega)) ?_
  cases okI l with
  | false => exact Ev_all_k fun k => by rw [if_neg (by decide), if_neg (by decide)]
  | true =>
    refine Ev.congr (fun k => if_pos rfl) ?_
    rw [if_pos rfl]
    have hp := posI_le l a.f0
    have hcl : ∀ x : List S50, x.length ≤ 1048577 → impl_Instr_48.f x = some x := fun x hx => by
      unfold impl_Instr_48.f
      rw [Option.bind_some, List.length_nil, if_pos (by omega), List.nil_append]
    have hend : Ev (fun k => impl_InstrPut.j1 k l ((posI l a.f0 : Nat) : Int) a.f0 a.f1) (if okI (insI l a) = true then (insI l a, true) else (l, false)) := by
      refine Ev.step (f := fun k => (impl_InstrsOk.f k (insI l a)).bind fun t => (if t = true then (some (insI l a, true)) else (some (l, false)))) (fun k => ?_) ?_
      · simp only [impl_InstrPut.j1]
        rw [hcl l (by omega), Option.bind_some]
        unfold impl_Instr_47.f
        rw [if_pos ⟨by omega, by omega, rfl, by omega⟩, Option.bind_some, Int.toNat_natCast]
        rfl
      · refine Ev_bind (instrsOk_i _ (by rw [insI_len]; omega)) ?_
        exact Ev_all_k fun k => by cases okI (insI l a) <;> rfl
    exact Ev_goes (fun k (_ : Unit) i => impl_InstrPut.l0 k l i a.f0 a.f1) (posI l a.f0) (fun _ _ => if okI (insI l a) = true then (insI l a, true) else (l, false)) (fun _ _ => True)
      (fun s _ => by
        refine Ev.step (f := fun k => impl_InstrPut.j1 k l ((posI l a.f0 : Nat) : Int) a.f0 a.f1) (fun k => ?_) hend
        show impl_InstrPut.l0 (k + 1) l _ a.f0 a.f1 = _
        simp only [impl_InstrPut.l0]
        by_cases h : posI l a.f0 < l.length
        · rw [if_pos (by omega), if_pos (by omega), rdI, if_neg (posI_at l a.f0 h)]
        · rw [if_neg (by omega)])
      (fun i s hi _ => .inr ⟨(), trivial, rfl, fun k => by
        show impl_InstrPut.l0 (k + 1) l (i : Int) a.f0 a.f1 = _
        simp only [impl_InstrPut.l0]
        rw [if_pos (by omega), if_pos (by omega), rdI, if_pos (posI_lt l a.f0 i hi), w_succ (n := l.length) (by omega) (by omega)]⟩) (posI l a.f0) 0 () (by omega) (by omega) trivial
theorem putI_s (l : List S50) (a : S50) (hm : l.length ≤ 1048576) : Ev (fun k => spec_InstrPut.f k l a.f0 a.f1) (putI l a) := by
  unfold spec_InstrPut.f putI
  refine Ev_bind (instrsOk_s l) ?_
  cases okI l with
  | false => exact Ev_all_k fun k => by rw [if_neg (by decide), if_neg (by decide)]
  | true =>
    refine Ev.congr (fun k => if_pos rfl) ?_
    rw [if_pos rfl]
    have hp := posI_le l a.f0
    exact Ev_goes (fun k (s : List S50 × Bool) i => spec_InstrPut.l0 k l s.1 s.2 i a.f0 a.f1) l.length (fun _ _ => if okI (insI l a) = true then (insI l a, true) else (l, false))
      (fun i s => s = if i ≤ posI l a.f0 then (l.take i, false) else (l.take (posI l a.f0) ++ [a] ++ (l.drop (posI l a.f0)).take (i - posI l a.f0), true))
      (fun s hs => by
        by_cases h : l.length ≤ posI l a.f0
        · rw [if_pos h] at hs
          subst hs
          have e : insI l a = l ++ [a] := by
            unfold insI
            rw [show posI l a.f0 = l.length by omega, List.take_length, List.drop_length, List.append_nil]
          refine Ev.step (f := fun k => (spec_InstrsOk.f k (insI l a)).bind fun t => (if t = true then (some (insI l a, true)) else (some (l, false)))) (fun k => ?_) (Ev_bind (instrsOk_s _) (Ev_all_k fun k => by cases okI (insI l a) <;> rfl))
          show spec_InstrPut.l0 (k + 1) l (l.take l.length) false (l.length : Int) a.f0 a.f1 = _
          rw [List.take_length]
          simp only [spec_InstrPut.l0]
          rw [if_neg (by omega), if_neg (by decide), if_pos (by omega), Option.bind_some]
          simp only [Option.bind_some, List.length_nil, List.nil_append]
          rw [if_pos (show 0 + l.length < 8796093022208 by omega), e]
        · rw [if_neg h] at hs
          subst hs
          have e : l.take (posI l a.f0) ++ [a] ++ (l.drop (posI l a.f0)).take (l.length - posI l a.f0) = insI l a := by
            unfold insI
            rw [List.take_of_length_le (l := l.drop (posI l a.f0)) (by rw [List.length_drop]; exact Nat.le_refl _)]
          refine Ev.step (f := fun k => (spec_InstrsOk.f k (insI l a)).bind fun t => (if t = true then (some (insI l a, true)) else (some (l, false)))) (fun k => ?_) (Ev_bind (instrsOk_s _) (Ev_all_k fun k => by cases okI (insI l a) <;> rfl))
          show spec_InstrPut.l0 (k + 1) l (l.take (posI l a.f0) ++ [a] ++ (l.drop (posI l a.f0)).take (l.length - posI l a.f0)) true (l.length : Int) a.f0 a.f1 = _
          rw [e]
          simp only [spec_InstrPut.l0]
          rw [if_neg (by omega), if_pos trivial]
          simp only [Option.bind_some, List.length_nil, List.nil_append]
          rw [if_pos (show 0 + l.length < 8796093022208 by omega)])
      (fun i s hi hs => by
        refine .inr ⟨_, rfl, rfl, fun k => ?_⟩
        by_cases h1 : i < posI l a.f0
        · rw [if_pos (by omega)] at hs
          subst hs
          rw [if_pos (by omega), take_getD z50 l i hi]
          show spec_InstrPut.l0 (k + 1) l (l.take i) false (i : Int) a.f0 a.f1 = _
          have := posI_lt l a.f0 i h1
          simp only [spec_InstrPut.l0]
          rw [if_pos (by omega), if_neg (by decide), if_pos (by omega), rdI, if_neg (by omega), if_pos (by rw [List.length_take]; omega), w_succ hi (by omega)]
        · by_cases h2 : i = posI l a.f0
          · rw [if_pos (by omega)] at hs
            subst hs
            have h3 := posI_at l a.f0 (by omega)
            rw [← h2] at h3
            rw [if_neg (by omega), ← h2, show i + 1 - i = 0 + 1 by omega, drop_getD z50 l i hi, List.take_succ_cons, List.take_zero]
            show spec_InstrPut.l0 (k + 1) l (l.take i) false (i : Int) a.f0 a.f1 = _
            simp only [spec_InstrPut.l0]
            rw [if_pos (by omega), if_neg (by decide), if_pos (by omega), rdI, if_pos (by omega), if_pos (by rw [List.length_take]; omega), Option.bind_some, if_pos (by simp; omega), w_succ hi (by omega)]
          · rw [if_neg (by omega)] at hs
            subst hs
            have hg : ((l.drop (posI l a.f0)).take (i + 1 - posI l a.f0)) = (l.drop (posI l a.f0)).take (i - posI l a.f0) ++ [l.getD i z50] := by
              rw [show i + 1 - posI l a.f0 = (i - posI l a.f0) + 1 by omega, take_getD z50 _ _ (by rw [List.length_drop]; omega)]
              congr 2
              rw [List.getD_eq_getElem?_getD, List.getElem?_drop, List.getD_eq_getElem?_getD]
              congr 2
              omega
            rw [if_neg (by omega), hg]
            show spec_InstrPut.l0 (k + 1) l (l.take (posI l a.f0) ++ [a] ++ (l.drop (posI l a.f0)).take (i - posI l a.f0)) true (i : Int) a.f0 a.f1 = _
            simp only [spec_InstrPut.l0]
            rw [if_pos (by omega), if_pos trivial, if_pos (by omega), if_pos (by simp; omega), rdI, w_succ hi (by omega), List.append_assoc _ _ [l.getD i z50]]) l.length 0 ([], false) (by omega) (by omega) (by rw [if_pos (by omega)]; rfl)
end Go.Proofs.Ytnfoldoeligfhaa.P1
namespace Go.Proofs.Ytnfoldoeligfhaa.D2
open Go Go.RowKit Go.Proofs.Ytnfoldoeligfhaa.P Go.Proofs.YtnfoldoeligfhaaW.PrintWords Go.Proofs.YtnfoldoeligfhaaW.PrintLast Go.Proofs.Ytnfoldoeligfhaa.EV Go.Proofs.Ytnfoldoeligfhaa.D1 Go.Proofs.Ytnfoldoeligfhaa.I1 Go.Proofs.Ytnfoldoeligfhaa.C1 Go.Proofs.Ytnfoldoeligfhaa.P1
theorem drawNo_ok (b : List Int) (i h : Int) (hv : V b i) : ∃ x i' h', spec_l3DrawNo.f b i h = some (x, i', h') ∧ V b i' := by
  unfold spec_l3DrawNo.f
  obtain ⟨x, i1, g1, e1, v1⟩ := once_ok b i h 15 hv (by decide)
  rw [e1, Option.bind_some]
  cases x with
  | true =>
    obtain ⟨y, i2, g2, e2, _, v2⟩ := pick_ok b i1 g1 [0, (-1), 1000, 1001] v1 (by decide) (by decide)
    refine ⟨y, i2, g2, ?_, v2⟩
    dsimp only
    rw [if_pos rfl, e2]
    rfl
  | false =>
    obtain ⟨y, i2, g2, e2, _, _, _, v2⟩ := below_ok b i1 g1 9 v1 (by decide)
    refine ⟨wrap64 (1 + y), i2, g2, ?_, v2⟩
    dsimp only
    rw [if_neg (by decide), e2]
    rfl
theorem putA_len (l : List S44) (a : S44) : (putA l a).1.length ≤ l.length + 1 := by
  unfold putA
  split
  · split
    · exact Nat.le_of_eq (insA_len l a)
    · exact Nat.le_succ _
  · exact Nat.zero_le _
theorem drawAccounts_l (b : List Int) (n : Int) (hn : n ≤ 60) : ∀ (d : Nat) (i : Int) (l : List S44) (c h : Int), (n - i).toNat = d → 0 ≤ i → (l.length : Int) ≤ i → l.length ≤ 60 → V b c → ∃ r c' h', Ev (fun k => spec_l3DrawAccounts.l0 k l n i b c h) (r, c', h') ∧ r.length ≤ 61 ∧ V b c' := by
  intro d
  induction d with
  | zero =>
    intro i l c h hd hi hl hl6 hv
    obtain ⟨x, i1, g1, e1, v1⟩ := once_ok b c h 15 hv (by decide)
    cases x with
    | false =>
      refine ⟨l, i1, g1, Ev_one fun k => ?_, by omega, v1⟩
      simp only [spec_l3DrawAccounts.l0]
      rw [if_neg (by omega), e1, Option.bind_some]
      rfl
    | true =>
      obtain ⟨y, i2, g2, e2, v2⟩ := drawNo_ok b i1 g1 v1
      obtain ⟨z, i3, g3, e3, _, _, _, v3⟩ := below_ok b i2 g2 6 v2 (by decide)
      refine ⟨l ++ [⟨y, z⟩], i3, g3, Ev_one fun k => ?_, by simp; omega, v3⟩
      simp only [spec_l3DrawAccounts.l0]
      rw [if_neg (by omega), e1, Option.bind_some, if_pos rfl]
      simp only [e2, e3, Option.bind_some]
      rw [if_pos (by omega)]
  | succ d ih =>
    intro i l c h hd hi hl hl6 hv
    have hw : wrap64 (3 + n) = 3 + n := w64_in _ (by omega) (by omega)
    have hw2 : wrap64 (i + 1) = i + 1 := w64_in _ (by omega) (by omega)
    obtain ⟨x, i1, g1, e1, _, _, _, v1⟩ := below_ok b c h (wrap64 (3 + n)) hv (by rw [hw]; omega)
    obtain ⟨y, i2, g2, e2, _, _, _, v2⟩ := below_ok b i1 g1 4 v1 (by decide)
    obtain ⟨o, ho⟩ : ∃ o, o = putA l ⟨wrap64 (1 + x), wrap64 (1 + y)⟩ := ⟨_, rfl⟩
    have hp : Ev (fun k => spec_AccountPut.f k l (wrap64 (1 + x)) (wrap64 (1 + y))) o := by rw [ho]; exact putA_s l ⟨wrap64 (1 + x), wrap64 (1 + y)⟩ (by omega)
    have hol : o.1.length ≤ l.length + 1 := by rw [ho]; exact putA_len _ _
    have e : ∀ k, spec_l3DrawAccounts.l0 (k + 1) l n i b c h = (spec_AccountPut.f k l (wrap64 (1 + x)) (wrap64 (1 + y))).bind fun t => if t.2 = true then spec_l3DrawAccounts.l0 k t.1 n (i + 1) b i2 g2 else spec_l3DrawAccounts.l0 k l n (i + 1) b i2 g2 := by
      intro k
      simp only [spec_l3DrawAccounts.l0]
      rw [if_pos (by omega), e1, Option.bind_some]
      simp only [e2, Option.bind_some, hw2]
    cases ho2 : o.2 with
    | true =>
      obtain ⟨r, c', h', hr, hr2, hv2⟩ := ih (i + 1) o.1 i2 g2 (by omega) (by omega) (by omega) (by omega) v2
      refine ⟨r, c', h', Ev.step e (Ev_bind hp ?_), hr2, hv2⟩
      exact Ev.congr (fun k => if_pos ho2) hr
    | false =>
      obtain ⟨r, c', h', hr, hr2, hv2⟩ := ih (i + 1) l i2 g2 (by omega) (by omega) (by omega) (by omega) v2
      refine ⟨r, c', h', Ev.step e (Ev_bind hp ?_), hr2, hv2⟩
      exact Ev.congr (fun k => if_neg (by rw [ho2]; decide)) hr
theorem drawAccounts_ok (b : List Int) (i h : Int) (hv : V b i) : ∃ r c' h', Ev (fun k => spec_l3DrawAccounts.f k b i h) (r, c', h') ∧ r.length ≤ 61 ∧ V b c' := by
  unfold spec_l3DrawAccounts.f
  obtain ⟨x, i1, g1, e1, x0, x1, _, v1⟩ := below_ok b i h 7 hv (by decide)
  have x2 := x1 (by decide)
  obtain ⟨y, i2, g2, e2, v2⟩ := once_ok b i1 g1 15 v1 (by decide)
  cases y with
  | true =>
    obtain ⟨r, c', h', hr, hr2, hv2⟩ := drawAccounts_l b 60 (by decide) _ 0 [] i2 g2 rfl (by decide) (by decide) (by decide) v2
    refine ⟨r, c', h', ?_, hr2, hv2⟩
    refine Ev.congr (fun k => ?_) (Ev.step (g := fun k => spec_l3DrawAccounts.j0 k [] 60 b i2 g2) (fun k => by simp only [spec_l3DrawAccounts.j0]) hr)
    rw [Option.bind_some, e1, Option.bind_some]
    simp only [e2, Option.bind_some]
    rw [if_pos trivial]
  | false =>
    obtain ⟨r, c', h', hr, hr2, hv2⟩ := drawAccounts_l b x (by omega) _ 0 [] i2 g2 rfl (by decide) (by decide) (by decide) v2
    refine ⟨r, c', h', ?_, hr2, hv2⟩
    refine Ev.congr (fun k => ?_) (Ev.step (g := fun k => spec_l3DrawAccounts.j0 k [] x b i2 g2) (fun k => by simp only [spec_l3DrawAccounts.j0]) hr)
    rw [Option.bind_some, e1, Option.bind_some]
    simp only [e2, Option.bind_some]
    rw [if_neg (by decide)]
theorem drawAccountPut_ok (l : List Int) (hl : l.length ≤ 140737488351232) : ∃ r x y, Ev (fun k => spec_DrawAccountPut.f k l) (r, x, y) ∧ r.length ≤ 61 := by
  unfold spec_DrawAccountPut.f
  obtain ⟨h, hn⟩ := new_ok l hl
  obtain ⟨r, c1, h1, hr, hr2, v1⟩ := drawAccounts_ok l 0 h ⟨by omega, by omega, hl⟩
  obtain ⟨x, i2, g2, e2, v2⟩ := drawNo_ok l c1 h1 v1
  obtain ⟨y, i3, g3, e3, _, _, _, v3⟩ := below_ok l i2 g2 12 v2 (by decide)
  obtain ⟨z, i4, g4, e4, _, _, _, v4⟩ := below_ok l i3 g3 9 v3 (by decide)
  refine ⟨r, x, wrap64 ((wrap64 (Int.tdiv y 2)) - (wrap64 (Int.tdiv z 8))), Ev_bind hn (Ev_bind hr (Ev_all_k fun k => ?_)), hr2⟩
  simp only [e2, e3, e4, Option.bind_some]
theorem putI_len (l : List S50) (a : S50) : (putI l a).1.length ≤ l.length + 1 := by
  unfold putI
  split
  · split
    · exact Nat.le_of_eq (insI_len l a)
    · exact Nat.le_succ _
  · exact Nat.zero_le _
theorem drawInstrs_l (b : List Int) (n : Int) (hn : n ≤ 30) : ∀ (d : Nat) (i : Int) (l : List S50) (c h : Int), (n - i).toNat = d → 0 ≤ i → (l.length : Int) ≤ i → l.length ≤ 30 → V b c → ∃ r c' h', Ev (fun k => spec_l3DrawInstrs.l0 k l n i b c h) (r, c', h') ∧ r.length ≤ 61 ∧ V b c' := by
  intro d
  induction d with
  | zero =>
    intro i l c h hd hi hl hl6 hv
    obtain ⟨x, i1, g1, e1, v1⟩ := once_ok b c h 15 hv (by decide)
    cases x with
    | false =>
      refine ⟨l, i1, g1, Ev_one fun k => ?_, by omega, v1⟩
      simp only [spec_l3DrawInstrs.l0]
      rw [if_neg (by omega), e1, Option.bind_some]
      rfl
    | true =>
      obtain ⟨y, i2, g2, e2, v2⟩ := drawNo_ok b i1 g1 v1
      obtain ⟨z, i3, g3, e3, _, _, _, v3⟩ := below_ok b i2 g2 4 v2 (by decide)
      refine ⟨l ++ [⟨y, z⟩], i3, g3, Ev_one fun k => ?_, by simp; omega, v3⟩
      simp only [spec_l3DrawInstrs.l0]
      rw [if_neg (by omega), e1, Option.bind_some, if_pos rfl]
      simp only [e2, e3, Option.bind_some]
      rw [if_pos (by omega)]
  | succ d ih =>
    intro i l c h hd hi hl hl6 hv
    have hw : wrap64 (3 + n) = 3 + n := w64_in _ (by omega) (by omega)
    have hw2 : wrap64 (i + 1) = i + 1 := w64_in _ (by omega) (by omega)
    obtain ⟨x, i1, g1, e1, _, _, _, v1⟩ := below_ok b c h (wrap64 (3 + n)) hv (by rw [hw]; omega)
    obtain ⟨y, i2, g2, e2, _, _, _, v2⟩ := below_ok b i1 g1 2 v1 (by decide)
    obtain ⟨o, ho⟩ : ∃ o, o = putI l ⟨wrap64 (1 + x), wrap64 (1 + y)⟩ := ⟨_, rfl⟩
    have hp : Ev (fun k => spec_InstrPut.f k l (wrap64 (1 + x)) (wrap64 (1 + y))) o := by rw [ho]; exact putI_s l ⟨wrap64 (1 + x), wrap64 (1 + y)⟩ (by omega)
    have hol : o.1.length ≤ l.length + 1 := by rw [ho]; exact putI_len _ _
    have e : ∀ k, spec_l3DrawInstrs.l0 (k + 1) l n i b c h = (spec_InstrPut.f k l (wrap64 (1 + x)) (wrap64 (1 + y))).bind fun t => if t.2 = true then spec_l3DrawInstrs.l0 k t.1 n (i + 1) b i2 g2 else spec_l3DrawInstrs.l0 k l n (i + 1) b i2 g2 := by
      intro k
      simp only [spec_l3DrawInstrs.l0]
      rw [if_pos (by omega), e1, Option.bind_some]
      simp only [e2, Option.bind_some, hw2]
    cases ho2 : o.2 with
    | true =>
      obtain ⟨r, c', h', hr, hr2, hv2⟩ := ih (i + 1) o.1 i2 g2 (by omega) (by omega) (by omega) (by omega) v2
      refine ⟨r, c', h', Ev.step e (Ev_bind hp ?_), hr2, hv2⟩
      exact Ev.congr (fun k => if_pos ho2) hr
    | false =>
      obtain ⟨r, c', h', hr, hr2, hv2⟩ := ih (i + 1) l i2 g2 (by omega) (by omega) (by omega) (by omega) v2
      refine ⟨r, c', h', Ev.step e (Ev_bind hp ?_), hr2, hv2⟩
      exact Ev.congr (fun k => if_neg (by rw [ho2]; decide)) hr
theorem drawInstrs_ok (b : List Int) (i h : Int) (hv : V b i) : ∃ r c' h', Ev (fun k => spec_l3DrawInstrs.f k b i h) (r, c', h') ∧ r.length ≤ 61 ∧ V b c' := by
  unfold spec_l3DrawInstrs.f
  obtain ⟨x, i1, g1, e1, x0, x1, _, v1⟩ := below_ok b i h 5 hv (by decide)
  have x2 := x1 (by decide)
  obtain ⟨y, i2, g2, e2, v2⟩ := once_ok b i1 g1 15 v1 (by decide)
  cases y with
  | true =>
    obtain ⟨r, c', h', hr, hr2, hv2⟩ := drawInstrs_l b 30 (by decide) _ 0 [] i2 g2 rfl (by decide) (by decide) (by decide) v2
    refine ⟨r, c', h', ?_, hr2, hv2⟩
    refine Ev.congr (fun k => ?_) (Ev.step (g := fun k => spec_l3DrawInstrs.j0 k [] 30 b i2 g2) (fun k => by simp only [spec_l3DrawInstrs.j0]) hr)
    rw [Option.bind_some, e1, Option.bind_some]
    simp only [e2, Option.bind_some]
    rw [if_pos trivial]
  | false =>
    obtain ⟨r, c', h', hr, hr2, hv2⟩ := drawInstrs_l b x (by omega) _ 0 [] i2 g2 rfl (by decide) (by decide) (by decide) v2
    refine ⟨r, c', h', ?_, hr2, hv2⟩
    refine Ev.congr (fun k => ?_) (Ev.step (g := fun k => spec_l3DrawInstrs.j0 k [] x b i2 g2) (fun k => by simp only [spec_l3DrawInstrs.j0]) hr)
    rw [Option.bind_some, e1, Option.bind_some]
    simp only [e2, Option.bind_some]
    rw [if_neg (by decide)]
theorem drawInstrPut_ok (l : List Int) (hl : l.length ≤ 140737488351232) : ∃ r x y, Ev (fun k => spec_DrawInstrPut.f k l) (r, x, y) ∧ r.length ≤ 61 := by
  unfold spec_DrawInstrPut.f
  obtain ⟨h, hn⟩ := new_ok l hl
  obtain ⟨r, c1, h1, hr, hr2, v1⟩ := drawInstrs_ok l 0 h ⟨by omega, by omega, hl⟩
  obtain ⟨x, i2, g2, e2, v2⟩ := drawNo_ok l c1 h1 v1
  obtain ⟨y, i3, g3, e3, _, _, _, v3⟩ := below_ok l i2 g2 9 v2 (by decide)
  obtain ⟨z, i4, g4, e4, _, _, _, v4⟩ := below_ok l i3 g3 9 v3 (by decide)
  refine ⟨r, x, wrap64 ((wrap64 (1 + (wrap64 (Int.tdiv y 4)))) -(wrap64 (Int.tdiv z 8))), Ev_bind hn (Ev_bind hr (Ev_all_k fun k => ?_)), hr2⟩
  simp only [e2, e3, e4, Option.bind_some]
end Go.Proofs.Ytnfoldoeligfhaa.D2
namespace Go.Proofs.Ytnfoldoeligfhaa.Pure
open Go Go.RowKit Go.Proofs.Ytnfoldoeligfhaa.P Go.Proofs.YtnfoldoeligfhaaW.PrintWords Go.Proofs.YtnfoldoeligfhaaW.PrintLast Go.Proofs.Ytnfoldoeligfhaa.EV Go.Proofs.Ytnfoldoeligfhaa.D1 Go.Proofs.Ytnfoldoeligfhaa.I1 Go.Proofs.Ytnfoldoeligfhaa.C1 Go.Proofs.Ytnfoldoeligfhaa.C2 Go.Proofs.Ytnfoldoeligfhaa.P1 Go.Proofs.Ytnfoldoeligfhaa.D2
theorem kindA_mem : ∀ {l : List S44}, l.Pairwise (fun x y => x.f0 < y.f0) → ∀ x ∈ l, kindA l x.f0 = x.f1
  | [], _, x, hx => by cases hx
  | y :: l, h, x, hx => by
    rw [List.pairwise_cons] at h
    unfold kindA
    rcases List.mem_cons.1 hx with rfl | hx
    · rw [if_pos rfl]
    · rw [if_neg (by have := h.1 x hx; omega)]
      exact kindA_mem h.2 x hx
theorem sortedA {l : List S44} (h : OkA l) : l.Pairwise (fun x y => x.f0 < y.f0) :=
  U1.adj_pairwise z44 (fun x y => x.f0 < y.f0) (fun _ _ _ h1 h2 => Int.lt_trans h1 h2) l (fun j h0 hj => (h.2 j hj).2.2 h0)
theorem kindOkA_mem {l : List S44} (h : okA l = true) {x : S44} (hx : x ∈ l) : kindOkA l x.f0 = x.f1 := by
  unfold kindOkA
  rw [if_pos h]
  exact kindA_mem (sortedA ((okA_iff l).1 h)) x hx
theorem mem_insA (l : List S44) (a : S44) : a ∈ insA l a := by
  unfold insA
  simp
theorem mem_insA' (l : List S44) (a x : S44) (hx : x ∈ l) : x ∈ insA l a := by
  unfold insA
  have h : x ∈ l.take (posA l a.f0) ++ l.drop (posA l a.f0) := by rw [List.take_append_drop]; exact hx
  rw [List.mem_append] at h
  rcases h with h | h
  · exact List.mem_append_left _ (List.mem_append_left _ h)
  · exact List.mem_append_right _ h
theorem kindI_mem : ∀ {l : List S50}, l.Pairwise (fun x y => x.f0 < y.f0) → ∀ x ∈ l, kindI l x.f0 = x.f1
  | [], _, x, hx => by cases hx
  | y :: l, h, x, hx => by
    rw [List.pairwise_cons] at h
    unfold kindI
    rcases List.mem_cons.1 hx with rfl | hx
    · rw [if_pos rfl]
    · rw [if_neg (by have := h.1 x hx; omega)]
      exact kindI_mem h.2 x hx
theorem sortedI {l : List S50} (h : OkI l) : l.Pairwise (fun x y => x.f0 < y.f0) :=
  U1.adj_pairwise z50 (fun x y => x.f0 < y.f0) (fun _ _ _ h1 h2 => Int.lt_trans h1 h2) l (fun j h0 hj => (h.2 j hj).2.2 h0)
theorem kindOkI_mem {l : List S50} (h : okI l = true) {x : S50} (hx : x ∈ l) : kindOkI l x.f0 = x.f1 := by
  unfold kindOkI
  rw [if_pos h]
  exact kindI_mem (sortedI ((okI_iff l).1 h)) x hx
theorem mem_insI (l : List S50) (a : S50) : a ∈ insI l a := by
  unfold insI
  simp
theorem instr_half (l0 : List Int) (hl : l0.length ≤ 140737488351232) : Ev (fun k => laws_FnChart.j2 k l0 false) true := by
  obtain ⟨l, x, y, hd, hl2⟩ := drawInstrPut_ok l0 hl
  refine Ev.step (fun k => by simp only [laws_FnChart.j2]; rw [if_neg (by decide)]) ?_
  refine Ev_bind hd ?_
  have hI := putI_i l ⟨x, y⟩ (by omega)
  have hS := putI_s l ⟨x, y⟩ (by omega)
  refine Ev_bind hI (Ev_bind hS ?_)
  refine Ev.congr (fun k => if_pos (by simp)) ?_
  unfold putI
  cases h1 : okI l with
  | false => exact Ev_all_k fun k => rfl
  | true =>
    rw [if_pos rfl]
    cases h2 : okI (insI l ⟨x, y⟩) with
    | false => exact Ev_all_k fun k => rfl
    | true =>
      rw [if_pos rfl]
      have hlen : (insI l ⟨x, y⟩).length = l.length + 1 := insI_len l ⟨x, y⟩
      refine Ev.congr (fun k => if_pos rfl) ?_
      refine Ev_bind (kindOkI_i (insI l ⟨x, y⟩) x (by omega)) ?_
      have hk := kindOkI_mem h2 (mem_insI l ⟨x, y⟩)
      dsimp only at hk
      rw [hk]
      refine Ev.congr (fun k => (if_pos rfl).trans (if_pos (by show ((insI l ⟨x, y⟩).length : Int) = wrap64 ((l.length : Int) + 1); rw [hlen, w64_in _ (by omega) (by omega)]; omega))) ?_
      refine Ev_bind (instrsOk_i (insI l ⟨x, y⟩) (by omega)) ?_
      exact Ev_all_k fun k => by rw [h2]
theorem FnChart : laws_FnChart.Pure := by
  intro l0 _ hl1 _
  refine Ev.rounds ?_
  unfold laws_FnChart.f
  have hl : l0.length ≤ 140737488351232 := by omega
  refine Ev.congr (fun k => by unfold laws_big.f; rw [Option.bind_some]) ?_
  by_cases hb : (l0.length : Int) > 1048576
  · exact Ev_all_k fun k => by rw [decide_eq_true hb, if_pos rfl]
  · refine Ev.congr (fun k => by rw [decide_eq_false hb, if_neg (by decide)]) ?_
    obtain ⟨l, x, y, hd, hl2⟩ := drawAccountPut_ok l0 hl
    refine Ev_bind hd ?_
    have hI := putA_i l ⟨x, y⟩ (by omega)
    have hS := putA_s l ⟨x, y⟩ (by omega)
    refine Ev_bind hI (Ev_bind hS ?_)
    refine Ev.congr (fun k => if_neg (by simp)) ?_
    refine Ev_bind (accountsOk_s l) ?_
    unfold putA
    cases h1 : okA l with
    | false =>
      refine Ev.congr (fun k => (if_neg (by decide)).trans (if_pos (by rw [if_neg (by decide)]; rfl))) ?_
      refine Ev_bind (kindOkA_i l x (by omega)) ?_
      unfold kindOkA
      rw [h1, if_neg (by decide)]
      exact Ev_all_k fun k => rfl
    | true =>
      refine Ev.congr (fun k => if_pos rfl) ?_
      rw [if_pos rfl]
      -- the rest, whatever was put
      have rest : ∀ (o : List S44) (b : Bool), okA o = true → (∀ z ∈ l, z ∈ o) → (b = true → (⟨x, y⟩ : S44) ∈ o) → o.length = l.length + (if b = true then 1 else 0) → Ev (fun k => laws_FnChart.l0 k l0 l o b 0 x y) true := by
        intro o b ho hm hb2 hlen
        have hol : o.length ≤ 62 := by rw [hlen]; split <;> omega
        refine Ev_goes' (fun k (_ : Unit) i => laws_FnChart.l0 k l0 l o b i x y) l.length (fun _ _ => true) (fun _ _ => True) (fun _ _ => ?_) (fun i _ hi _ => .inr ⟨(), trivial, rfl, fun r hr => ?_⟩) l.length 0 () (by omega) (by omega) trivial
        · cases b with
          | true =>
            rw [if_pos rfl] at hlen
            refine Ev.step (fun k => by simp only [laws_FnChart.l0]; rw [if_neg (by omega), if_pos trivial]) ?_
            refine Ev.step (fun k => by simp only [laws_FnChart.j1]; rw [if_pos trivial]) ?_
            have hk := kindOkA_mem ho (hb2 rfl)
            dsimp only at hk
            refine Ev_bind (kindOkA_i o x (by omega)) ?_
            rw [hk]
            refine Ev.congr (fun k => (if_pos rfl).trans (if_pos (by rw [hlen, w64_in _ (by omega) (by omega)]; omega))) ?_
            refine Ev_bind (accountsOk_i o (by omega)) ?_
            rw [ho]
            exact instr_half l0 hl
          | false =>
            rw [if_neg (by decide)] at hlen
            refine Ev.step (fun k => by simp only [laws_FnChart.l0]; rw [if_neg (by omega), if_neg (by decide)]) ?_
            refine Ev.step (fun k => by simp only [laws_FnChart.j1]; rw [if_neg (by decide), if_pos (by rw [hlen, w64_in _ (by omega) (by omega)]; omega)]) ?_
            refine Ev_bind (accountsOk_i o (by omega)) ?_
            rw [ho]
            exact instr_half l0 hl
        · have hx : l.getD i z44 ∈ l := by rw [U1.getD_get _ l i hi]; exact List.getElem_mem hi
          have hk := kindOkA_mem ho (hm _ hx)
          refine Ev.step (f := fun k => (impl_AccountKind.f k o (l.getD i z44).f0).bind fun t => (if t = (l.getD i z44).f1 then laws_FnChart.l0 k l0 l o b ((i + 1 : Nat) : Int) x y else none)) (fun k => ?_) ?_
          · simp only [laws_FnChart.l0, rdA]
            rw [if_pos (by omega), if_pos (by omega), w_succ hi (by omega)]
          · refine Ev_bind (kindOkA_i o _ (by omega)) ?_
            rw [hk]
            exact Ev.congr (fun k => if_pos rfl) hr
      cases h2 : okA (insA l ⟨x, y⟩) with
      | false =>
        rw [if_neg (by decide)]
        exact rest l false h1 (fun _ hz => hz) (fun h => by cases h) (by rw [if_neg (by decide)]; rfl)
      | true =>
        rw [if_pos rfl]
        exact rest (insA l ⟨x, y⟩) true h2 (fun z hz => mem_insA' l _ z hz) (fun _ => mem_insA l _) (by rw [if_pos rfl]; exact insA_len l _)
end Go.Proofs.Ytnfoldoeligfhaa.Pure
namespace Go.Proofs.YtnfoldoeligfhaaW.PrintWords
open Go.ChangeShapes Go.WideShapes
theorem sized_ints {H : Type} {enc : TypeId × Value → H} {P : Program} {W : World} {base : Nat} {spare : Nat → Bool} {held : Bool} {t e : TypeId} {k : IntKind} {a : Option Addr} {len cap : Nat} {d : DataW H} {ps : List MemPlace} {ts : List TypeId} {ds : List (DataW H)} {j : Nat}
    (hsz : (DataW.weightsEach P ts ds).all (· ≤ reachBytes) = true) (ht : ts[j]? = some t) (hd : ds[j]? = some d) (hu : P.underlying t = some (.slice e)) (he : P.underlying e = some (.int k)) (hc : P.cellsOf e = 1) {B : Nat} (hB : P.bytesOf e = B)
    (h : DataW.Trod enc P W base spare held t (.slice a len cap) d ps) : len * B ≤ 140737488351232 := by
  obtain ⟨fuel, hf⟩ := h
  rcases open_ints hu he hc hf with ⟨hcs, _⟩ | ⟨x, l, c, zs, hcs, _, hl, _, hz, hx, _, _⟩
  · simp [Value.cells] at hcs
    obtain ⟨rfl, rfl, rfl⟩ := hcs
    simp
  · simp [Value.cells] at hcs
    obtain ⟨rfl, rfl, rfl⟩ := hcs
    obtain ⟨hx, _⟩ := Prod.mk.inj hx
    subst hx
    have z := sized_slice hsz ht hd hu
    rw [hB] at z
    have hl2 : len ≤ zs.length := by
      rw [hz]
      split
      · exact hl
      · exact Nat.le_refl _
    have h1 : (lits (H := H) k (zs.take len)).length + (lits (H := H) k (zs.drop len)).length = zs.length := by
      simp [lits]
      omega
    rw [h1] at z
    exact Nat.le_trans (Nat.mul_le_mul_right _ hl2) z
end Go.Proofs.YtnfoldoeligfhaaW.PrintWords
namespace Go.Proofs.Ytnfoldoeligfhaa.fnChart
open Go.ChangeShapes Go.WideShapes Go.ChangeAt Go.RowKit
open Go.ChangeMaps (open_string shut_string)
set_option linter.unusedVariables false
theorem own : ownKnob Try.prog.godebug = none := by kernel_rfl
theorem laidOut : laidOutB Try.prog = true := by kernel_rfl
def IsRow (k : IntKind) (w : World) (a : Option Addr) (len cap : Nat) (zs : List Int) : Prop :=
  (a = none ∧ len = 0 ∧ cap = 0 ∧ zs = []) ∨
  ∃ x, a = some x ∧ len ≤ cap ∧ cap ≤ maxLen ∧ zs.length = cap ∧ (∀ i, i < zs.length → w.cell? (x.add i) = some (.int k (zs.getD i 0))) ∧ ∀ n ∈ zs, (Lit.int k n).wf = true
set_option maxRecDepth 100000 in
theorem lifted (os : Os) (started : os.Started) (H : Type) (enc : TypeId × Value → H) :
    ReturnsInHanded {} Try.checked os 9 .any (Rows.fnChartSpec.pre6 enc Try.prog Try.f9 Rows.fnChartRow.domain false) (Rows.fnChartSpec.post enc Try.prog Try.f9 false true false false) := by
  refine returnsInHanded_of_change_sized (C := Try.checked) own started (by kernel_rfl) Try.func9
    (ChangeSpec.witness6 (enc := enc) (C := Try.checked) false ⟨#[], #[.slice none 0 0], []⟩ 8 (by kernel_rfl) (by kernel_rfl) (by kernel_rfl) (by kernel_rfl)) ?_
  intro W base args ds gs before hval0 hW hcnd hsz0 _
  have hsz : (DataW.weightsEach Try.prog (Try.f9.params.toList ++ Rows.fnChartSpec.plain.varTypes Try.prog) (ds ++ gs)).all (· ≤ reachBytes) = true := hsz0
  have hval : ∀ (j : Nat) t v, Try.f9.params[j]? = some t → args[j]? = some v → Value.okWide Try.prog W .any base t v := hval0
  have hW' := hW
  obtain ⟨p, q, hA0, hV, rfl, hfz, hnd⟩ := hW
  have hA : DataW.TrodAll enc Try.prog W 0 (fun _ => true) true Try.f9.params.toList args.toList ds p := hA0
  rw [Try.params9] at hA hval hsz
  obtain ⟨v0, vs0, d0, ds0, p0, q0, hargs, rfl, rfl, h0, r0⟩ := trodAll_cons hA
  obtain ⟨rfl, rfl, rfl⟩ := trodAll_nil r0
  obtain rfl : args = #[v0] := by cases args; simp_all
  obtain ⟨rfl, rfl⟩ := trodVars_none hV
  obtain ⟨a0, len0, cap0, rfl⟩ := okWide_slice Try.underlying53 (hval 0 53 v0 rfl rfl)
  have k0 := h0
  have lt0 : ∀ x ∈ p0, x.block < W.heap.size := by obtain ⟨m, hm⟩ := k0; exact DataW.trod_lt m _ _ _ hm
  obtain ⟨z0, w0⟩ : ∃ zs, IsRow .u8 W a0 len0 cap0 zs := by
    obtain ⟨fuel, hf⟩ := h0
    rcases open_ints Try.underlying53 Try.underlying5 (by kernel_rfl) hf with ⟨hcs, _⟩ | ⟨x, l, c, zs, hcs, _, hl, hm, hz, _, hcell, hwz⟩
    · simp [Value.cells] at hcs
      obtain ⟨rfl, rfl, rfl⟩ := hcs
      exact ⟨[], .inl ⟨rfl, rfl, rfl, rfl⟩⟩
    · simp [Value.cells] at hcs
      obtain ⟨rfl, rfl, rfl⟩ := hcs
      exact ⟨zs, .inr ⟨_, rfl, hl, hm, by simpa using hz, hcell, hwz⟩⟩
  have y0 : len0 * 1 ≤ 140737488351232 := Go.Proofs.YtnfoldoeligfhaaW.PrintWords.sized_ints hsz (j := 0) (t := 53) rfl rfl Try.underlying53 Try.underlying5 (by kernel_rfl) (by kernel_rfl) h0
  clear hA0 hval0 hsz0 hsz
  refine (P.laws_FnChart.walk Pure.FnChart a0 len0 cap0 z0 W w0 y0).mono fun e W' ⟨he, bel⟩ => ?_
  subst he
  exact ⟨_, rfl, _, _, _, [], _, [], hW', trodAll_mk1 (shut_bool Try.underlying4 _), (trodAll_cons_mk (Below.trod laidOut (by kernel_rfl) (of_decide_eq_true (by kernel_rfl)) k0 bel lt0) trodAll_mk0), rfl, bel.frame _, fun h => by cases h⟩
theorem over : Rows.fnChartRow.holds Try.pinned (OpenSpec.ofChange Rows.fnChartSpec) :=
  OpenClaim.holds_of_wide 9 Try.f9 rfl rfl rfl rfl rfl rfl rfl ⟨rfl, rfl, rfl, rfl, rfl⟩ rfl rfl rfl rfl rfl (by kernel_rfl) Try.func9 (by kernel_rfl)
    (of_decide_eq_true (by kernel_rfl)) (by unfold Func.isWrapper; first | (rw [if_pos (by decide +kernel)]; kernel_rfl) | (rw [if_neg (by decide +kernel)]; exact ⟨rfl, rfl⟩))
    (fun os started H enc _ => lifted os started H enc)
theorem proved : Rows.FnChartSaid := over
#print axioms proved
end Go.Proofs.Ytnfoldoeligfhaa.fnChart
namespace Go.Proofs.Ytnfoldoeligfhaa
theorem fnChart_holds : Rows.FnChartSaid := fnChart.proved
end Go.Proofs.Ytnfoldoeligfhaa
