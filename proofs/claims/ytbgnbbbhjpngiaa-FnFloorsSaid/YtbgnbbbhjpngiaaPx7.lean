/- A text written by a program of this repo over the seat's translation: plain functions and the walks that tie the Go calls to them. -/
import Derived.Test.YtbgnbbbhjpngiaaPx0
import Derived.Test.YtbgnbbbhjpngiaaPx1
import Derived.Test.YtbgnbbbhjpngiaaPx2
import Derived.Test.YtbgnbbbhjpngiaaPx5
import Derived.Test.YtbgnbbbhjpngiaaPx6
namespace Go.Proofs.Ytbgnbbbhjpngiaa.P
open Go.RowKit Go.Proofs.YtbgnbbbhjpngiaaW.PrintWords Go.Proofs.YtbgnbbbhjpngiaaW.PrintLast Go.Proofs.YtbgnbbbhjpngiaaW.PrintMore
attribute [local go_sem] max2_int min2_int max_two min_two max_three min_three max_four min_four   -- for this text's walks alone
set_option linter.unusedVariables false
set_option linter.unusedSimpArgs false

/-! ### laws_FnFloors: function 11 -/
mutual
def laws_FnFloors.j0 : Nat → Int → Int → Int → Bool → Int → Bool → Int → Bool → Bool → Option (Bool)
  | 0, _, _, _, _, _, _, _, _, _ => none
  | k + 1, x3, x4, x5, x6, x9, x10, x13, x14, x81 => if x81 = true then (some false) else (if x6 = true then (if x4 > 0 then (if (wrap64 (x3 - (wrap64 (x5 * x4)))) < 0 then (some false) else (if (wrap64 (x3 - (wrap64 (x5 * x4)))) ≥ x4 then (some false) else (if x4 < 0 then (if (wrap64 (x3 - (wrap64 (x5 * x4)))) > 0 then (some false) else (if (wrap64 (x3 - (wrap64 (x5 * x4)))) ≤ x4 then (some false) else (laws_FnFloors.j1 k x3 x4 x9 x10 x13 x14))) else (laws_FnFloors.j1 k x3 x4 x9 x10 x13 x14)))) else (if x4 < 0 then (if (wrap64 (x3 - (wrap64 (x5 * x4)))) > 0 then (some false) else (if (wrap64 (x3 - (wrap64 (x5 * x4)))) ≤ x4 then (some false) else (laws_FnFloors.j1 k x3 x4 x9 x10 x13 x14))) else (laws_FnFloors.j1 k x3 x4 x9 x10 x13 x14))) else (laws_FnFloors.j1 k x3 x4 x9 x10 x13 x14))
def laws_FnFloors.j1 : Nat → Int → Int → Int → Bool → Int → Bool → Option (Bool)
  | 0, _, _, _, _, _, _ => none
  | k + 1, x3, x4, x9, x10, x13, x14 => if x10 = true then ((impl_SubIn.f x9 x4).bind fun bt284 => (if bt284.2 = true then (if bt284.1 = x3 then ((impl_AmountOk.f x9).bind fun t286 => (if t286 = true then (laws_FnFloors.j2 k x3 x4 x13 x14) else (some false))) else (some false)) else (some false))) else (laws_FnFloors.j2 k x3 x4 x13 x14)
def laws_FnFloors.j2 : Nat → Int → Int → Int → Bool → Option (Bool)
  | 0, _, _, _, _ => none
  | k + 1, x3, x4, x13, x14 => if x14 = true then ((impl_AddIn.f x13 x4).bind fun bt287 => (if bt287.2 = true then (laws_FnFloors.j3 k x3 x4 (bt287.1 != x3)) else (laws_FnFloors.j3 k x3 x4 true))) else ((impl_MulIn.f k x3 x4).bind fun bt293 => ((spec_MulIn.f k x3 x4).bind fun bt295 => (if (bt293.2 == bt295.2) = true then (if bt293.2 = true then (if x3 = 0 then (if bt293.1 = 0 then (some true) else (some false)) else (if (wrap64 (Int.tdiv bt293.1 x3)) = x4 then (some ((Int.tmod bt293.1 x3) == 0)) else (some false))) else (some true)) else (some false))))
def laws_FnFloors.j3 : Nat → Int → Int → Bool → Option (Bool)
  | 0, _, _, _ => none
  | k + 1, x3, x4, x144 => if x144 = true then (some false) else ((impl_MulIn.f k x3 x4).bind fun bt289 => ((spec_MulIn.f k x3 x4).bind fun bt291 => (if (bt289.2 == bt291.2) = true then (if bt289.2 = true then (if x3 = 0 then (if bt289.1 = 0 then (some true) else (some false)) else (if (wrap64 (Int.tdiv bt289.1 x3)) = x4 then (some ((Int.tmod bt289.1 x3) == 0)) else (some false))) else (some true)) else (some false))))
end
def laws_FnFloors.f (k : Nat) (l0 : List Int) : Option (Bool) := (laws_big.f l0).bind fun t269 => (if t269 = true then (some true) else ((spec_DrawDivFloor.f k l0).bind fun bt270 => ((impl_DivFloor.f k bt270.1 bt270.2).bind fun bt272 => ((spec_DivFloor.f k bt270.1 bt270.2).bind fun bt274 => ((impl_AddIn.f bt270.1 bt270.2).bind fun bt276 => ((spec_AddIn.f bt270.1 bt270.2).bind fun bt278 => ((impl_SubIn.f bt270.1 bt270.2).bind fun bt280 => ((spec_SubIn.f bt270.1 bt270.2).bind fun bt282 => (if (bt272.2 != bt274.2) = true then (laws_FnFloors.j0 k bt270.1 bt270.2 bt272.1 bt272.2 bt276.1 bt276.2 bt280.1 bt280.2 true) else (if (bt276.2 != bt278.2) = true then (laws_FnFloors.j0 k bt270.1 bt270.2 bt272.1 bt272.2 bt276.1 bt276.2 bt280.1 bt280.2 true) else (laws_FnFloors.j0 k bt270.1 bt270.2 bt272.1 bt272.2 bt276.1 bt276.2 bt280.1 bt280.2 (bt280.2 != bt282.2))))))))))))
theorem laws_FnFloors.mono_l : ∀ k, (∀ y0 y1 y2 y3 y4 y5 y6 y7 y8, LeO (laws_FnFloors.j0 k y0 y1 y2 y3 y4 y5 y6 y7 y8) (laws_FnFloors.j0 (k + 1) y0 y1 y2 y3 y4 y5 y6 y7 y8)) ∧ (∀ y0 y1 y2 y3 y4 y5, LeO (laws_FnFloors.j1 k y0 y1 y2 y3 y4 y5) (laws_FnFloors.j1 (k + 1) y0 y1 y2 y3 y4 y5)) ∧ (∀ y0 y1 y2 y3, LeO (laws_FnFloors.j2 k y0 y1 y2 y3) (laws_FnFloors.j2 (k + 1) y0 y1 y2 y3)) ∧ (∀ y0 y1 y2, LeO (laws_FnFloors.j3 k y0 y1 y2) (laws_FnFloors.j3 (k + 1) y0 y1 y2))
  | 0 => ⟨fun _ _ _ _ _ _ _ _ _ r h => by simp [laws_FnFloors.j0] at h, fun _ _ _ _ _ _ r h => by simp [laws_FnFloors.j1] at h, fun _ _ _ _ r h => by simp [laws_FnFloors.j2] at h, fun _ _ _ r h => by simp [laws_FnFloors.j3] at h⟩
  | k + 1 => by
    obtain ⟨ih0, ih1, ih2, ih3⟩ := laws_FnFloors.mono_l k
    refine ⟨?_, ?_, ?_, ?_⟩
    · intro y0 y1 y2 y3 y4 y5 y6 y7 y8
      unfold laws_FnFloors.j0
      repeat' first
      | (with_reducible exact ih0 _ _ _ _ _ _ _ _ _)
      | (with_reducible exact ih1 _ _ _ _ _ _)
      | (with_reducible exact ih2 _ _ _ _)
      | (with_reducible exact ih3 _ _ _)
      | (with_reducible exact impl_DivFloor.mono _ _ _)
      | (with_reducible exact impl_MulIn.mono _ _ _)
      | (with_reducible exact spec_DivFloor.mono _ _ _)
      | (with_reducible exact spec_DrawDivFloor.mono _ _)
      | (with_reducible exact spec_MulIn.mono _ _ _)
      | (with_reducible exact LeO.refl _)
      | (with_reducible exact LeO.none _)
      | (with_reducible refine LeO.ite ?_ ?_)
      | (with_reducible refine LeO.bind ?_ (fun _ => ?_))
      | exact ih0 _ _ _ _ _ _ _ _ _
      | exact ih1 _ _ _ _ _ _
      | exact ih2 _ _ _ _
      | exact ih3 _ _ _
      | exact impl_DivFloor.mono _ _ _
      | exact impl_MulIn.mono _ _ _
      | exact spec_DivFloor.mono _ _ _
      | exact spec_DrawDivFloor.mono _ _
      | exact spec_MulIn.mono _ _ _
      | exact LeO.none _
      | refine LeO.ite ?_ ?_
      | refine LeO.bind ?_ (fun _ => ?_)
    · intro y0 y1 y2 y3 y4 y5
      unfold laws_FnFloors.j1
      repeat' first
      | (with_reducible exact ih0 _ _ _ _ _ _ _ _ _)
      | (with_reducible exact ih1 _ _ _ _ _ _)
      | (with_reducible exact ih2 _ _ _ _)
      | (with_reducible exact ih3 _ _ _)
      | (with_reducible exact impl_DivFloor.mono _ _ _)
      | (with_reducible exact impl_MulIn.mono _ _ _)
      | (with_reducible exact spec_DivFloor.mono _ _ _)
      | (with_reducible exact spec_DrawDivFloor.mono _ _)
      | (with_reducible exact spec_MulIn.mono _ _ _)
      | (with_reducible exact LeO.refl _)
      | (with_reducible exact LeO.none _)
      | (with_reducible refine LeO.ite ?_ ?_)
      | (with_reducible refine LeO.bind ?_ (fun _ => ?_))
      | exact ih0 _ _ _ _ _ _ _ _ _
      | exact ih1 _ _ _ _ _ _
      | exact ih2 _ _ _ _
      | exact ih3 _ _ _
      | exact impl_DivFloor.mono _ _ _
      | exact impl_MulIn.mono _ _ _
      | exact spec_DivFloor.mono _ _ _
      | exact spec_DrawDivFloor.mono _ _
      | exact spec_MulIn.mono _ _ _
      | exact LeO.none _
      | refine LeO.ite ?_ ?_
      | refine LeO.bind ?_ (fun _ => ?_)
    · intro y0 y1 y2 y3
      unfold laws_FnFloors.j2
      repeat' first
      | (with_reducible exact ih0 _ _ _ _ _ _ _ _ _)
      | (with_reducible exact ih1 _ _ _ _ _ _)
      | (with_reducible exact ih2 _ _ _ _)
      | (with_reducible exact ih3 _ _ _)
      | (with_reducible exact impl_DivFloor.mono _ _ _)
      | (with_reducible exact impl_MulIn.mono _ _ _)
      | (with_reducible exact spec_DivFloor.mono _ _ _)
      | (with_reducible exact spec_DrawDivFloor.mono _ _)
      | (with_reducible exact spec_MulIn.mono _ _ _)
      | (with_reducible exact LeO.refl _)
      | (with_reducible exact LeO.none _)
      | (with_reducible refine LeO.ite ?_ ?_)
      | (with_reducible refine LeO.bind ?_ (fun _ => ?_))
      | exact ih0 _ _ _ _ _ _ _ _ _
      | exact ih1 _ _ _ _ _ _
      | exact ih2 _ _ _ _
      | exact ih3 _ _ _
      | exact impl_DivFloor.mono _ _ _
      | exact impl_MulIn.mono _ _ _
      | exact spec_DivFloor.mono _ _ _
      | exact spec_DrawDivFloor.mono _ _
      | exact spec_MulIn.mono _ _ _
      | exact LeO.none _
      | refine LeO.ite ?_ ?_
      | refine LeO.bind ?_ (fun _ => ?_)
    · intro y0 y1 y2
      unfold laws_FnFloors.j3
      repeat' first
      | (with_reducible exact ih0 _ _ _ _ _ _ _ _ _)
      | (with_reducible exact ih1 _ _ _ _ _ _)
      | (with_reducible exact ih2 _ _ _ _)
      | (with_reducible exact ih3 _ _ _)
      | (with_reducible exact impl_DivFloor.mono _ _ _)
      | (with_reducible exact impl_MulIn.mono _ _ _)
      | (with_reducible exact spec_DivFloor.mono _ _ _)
      | (with_reducible exact spec_DrawDivFloor.mono _ _)
      | (with_reducible exact spec_MulIn.mono _ _ _)
      | (with_reducible exact LeO.refl _)
      | (with_reducible exact LeO.none _)
      | (with_reducible refine LeO.ite ?_ ?_)
      | (with_reducible refine LeO.bind ?_ (fun _ => ?_))
      | exact ih0 _ _ _ _ _ _ _ _ _
      | exact ih1 _ _ _ _ _ _
      | exact ih2 _ _ _ _
      | exact ih3 _ _ _
      | exact impl_DivFloor.mono _ _ _
      | exact impl_MulIn.mono _ _ _
      | exact spec_DivFloor.mono _ _ _
      | exact spec_DrawDivFloor.mono _ _
      | exact spec_MulIn.mono _ _ _
      | exact LeO.none _
      | refine LeO.ite ?_ ?_
      | refine LeO.bind ?_ (fun _ => ?_)
theorem laws_FnFloors.mono : ∀ a0 k, LeO (laws_FnFloors.f k a0) (laws_FnFloors.f (k + 1) a0) := by
  intro a0 k
  obtain ⟨ih0, ih1, ih2, ih3⟩ := laws_FnFloors.mono_l k
  unfold laws_FnFloors.f
  repeat' first
      | (with_reducible exact ih0 _ _ _ _ _ _ _ _ _)
      | (with_reducible exact ih1 _ _ _ _ _ _)
      | (with_reducible exact ih2 _ _ _ _)
      | (with_reducible exact ih3 _ _ _)
      | (with_reducible exact impl_DivFloor.mono _ _ _)
      | (with_reducible exact impl_MulIn.mono _ _ _)
      | (with_reducible exact spec_DivFloor.mono _ _ _)
      | (with_reducible exact spec_DrawDivFloor.mono _ _)
      | (with_reducible exact spec_MulIn.mono _ _ _)
      | (with_reducible exact LeO.refl _)
      | (with_reducible exact LeO.none _)
      | (with_reducible refine LeO.ite ?_ ?_)
      | (with_reducible refine LeO.bind ?_ (fun _ => ?_))
      | exact ih0 _ _ _ _ _ _ _ _ _
      | exact ih1 _ _ _ _ _ _
      | exact ih2 _ _ _ _
      | exact ih3 _ _ _
      | exact impl_DivFloor.mono _ _ _
      | exact impl_MulIn.mono _ _ _
      | exact spec_DivFloor.mono _ _ _
      | exact spec_DrawDivFloor.mono _ _
      | exact spec_MulIn.mono _ _ _
      | exact LeO.none _
      | refine LeO.ite ?_ ?_
      | refine LeO.bind ?_ (fun _ => ?_)
set_option maxHeartbeats 8000000 in
set_option maxRecDepth 100000 in
theorem laws_FnFloors.calls (k : Nat) (A0 : Option Addr) (c0 : Nat) (l0 : List Int) (r : Bool) (w : World) (hr0 : Kd.C (Kd.int .u8) w A0 l0.length l0) (hc0 : l0.length ≤ c0) (h : laws_FnFloors.f k l0 = some r) :
    Calls Try.prog 11 #[.slice A0 l0.length c0] w fun e w' => e = .returned (.bool r) ∧ Below w.heap.size w w' := by
  have HR0 := Aside0.mk hr0
  have HC0 := Aside0.mk hc0
  clear hr0 hc0
  have HB := Aside0.mk (Below.refl w.heap.size w)
  have H : ((laws_big.f l0).bind fun t269 => (if t269 = true then (some true) else ((spec_DrawDivFloor.f k l0).bind fun bt270 => ((impl_DivFloor.f k bt270.1 bt270.2).bind fun bt272 => ((spec_DivFloor.f k bt270.1 bt270.2).bind fun bt274 => ((impl_AddIn.f bt270.1 bt270.2).bind fun bt276 => ((spec_AddIn.f bt270.1 bt270.2).bind fun bt278 => ((impl_SubIn.f bt270.1 bt270.2).bind fun bt280 => ((spec_SubIn.f bt270.1 bt270.2).bind fun bt282 => (if (bt272.2 != bt274.2) = true then (laws_FnFloors.j0 k bt270.1 bt270.2 bt272.1 bt272.2 bt276.1 bt276.2 bt280.1 bt280.2 true) else (if (bt276.2 != bt278.2) = true then (laws_FnFloors.j0 k bt270.1 bt270.2 bt272.1 bt272.2 bt276.1 bt276.2 bt280.1 bt280.2 true) else (laws_FnFloors.j0 k bt270.1 bt270.2 bt272.1 bt272.2 bt276.1 bt276.2 bt280.1 bt280.2 (bt280.2 != bt282.2))))))))))))) = some r := h
  clear h
  replace H := Option.bind_eq_some_iff.mp H
  obtain ⟨t269, A20, H⟩ := H
  replace H : (if t269 = true then (some true) else ((spec_DrawDivFloor.f k l0).bind fun bt270 => ((impl_DivFloor.f k bt270.1 bt270.2).bind fun bt272 => ((spec_DivFloor.f k bt270.1 bt270.2).bind fun bt274 => ((impl_AddIn.f bt270.1 bt270.2).bind fun bt276 => ((spec_AddIn.f bt270.1 bt270.2).bind fun bt278 => ((impl_SubIn.f bt270.1 bt270.2).bind fun bt280 => ((spec_SubIn.f bt270.1 bt270.2).bind fun bt282 => (if (bt272.2 != bt274.2) = true then (laws_FnFloors.j0 k bt270.1 bt270.2 bt272.1 bt272.2 bt276.1 bt276.2 bt280.1 bt280.2 true) else (if (bt276.2 != bt278.2) = true then (laws_FnFloors.j0 k bt270.1 bt270.2 bt272.1 bt272.2 bt276.1 bt276.2 bt280.1 bt280.2 true) else (laws_FnFloors.j0 k bt270.1 bt270.2 bt272.1 bt272.2 bt276.1 bt276.2 bt280.1 bt280.2 (bt280.2 != bt282.2)))))))))))) = some r := H
  have A2 := Aside0.mk A20
  clear A20
  by_cases c3 : t269 = true
  · as_aux_lemma =>
    subst c3
    have H1 : (some true) = some r := by rw [if_pos rfl] at H; exact H
    clear H
    have H := H1
    clear H1
    obtain rfl := Option.some.inj H
    go_enter Try.func11, Try.ntmps11
    go_wp2_with (first | ((with_reducible refine gate_callee (f := 24) rfl ?_); refine goesL_ (some 27) rfl rfl Try.func24 (by kernel_rfl) rfl #[.slice A0 l0.length c0] rfl (by (try simp only [List.map_toArray, List.map_cons, List.map_nil]); first | done | rfl | (simp only [List.length_drop, List.length_take]; rfl)) ?_; (with_reducible refine (laws_big.calls _ _ l0 true _ ?side1 ?side2 A2.out).mono ?_); (case side1 => repeat (first | exact HR0.out | (with_reducible refine Kd.C_alloc ?_ _) | (with_reducible refine Kd.C_drewN ?_ _) | (with_reducible refine Kd.C_drew ?_))); (case side2 => exact HC0.out); rintro e w' ⟨rfl, ⟨nd, rfl⟩⟩; refine ⟨_, rfl, ?_⟩))
    go_ret
    exact ⟨by first | rfl | (simp [errW_none, errW_some] <;> rfl) | (simp [*, errW_none, errW_some] <;> rfl), by repeat (first | (with_reducible first | exact HB.out | apply below_alloc | apply pw_below_drewN | apply below_drew1) | exact HB.out)⟩
  · as_aux_lemma =>
    replace c3 := Bool.eq_false_iff.mpr c3
    subst c3
    have H1 : ((spec_DrawDivFloor.f k l0).bind fun bt270 => ((impl_DivFloor.f k bt270.1 bt270.2).bind fun bt272 => ((spec_DivFloor.f k bt270.1 bt270.2).bind fun bt274 => ((impl_AddIn.f bt270.1 bt270.2).bind fun bt276 => ((spec_AddIn.f bt270.1 bt270.2).bind fun bt278 => ((impl_SubIn.f bt270.1 bt270.2).bind fun bt280 => ((spec_SubIn.f bt270.1 bt270.2).bind fun bt282 => (if (bt272.2 != bt274.2) = true then (laws_FnFloors.j0 k bt270.1 bt270.2 bt272.1 bt272.2 bt276.1 bt276.2 bt280.1 bt280.2 true) else (if (bt276.2 != bt278.2) = true then (laws_FnFloors.j0 k bt270.1 bt270.2 bt272.1 bt272.2 bt276.1 bt276.2 bt280.1 bt280.2 true) else (laws_FnFloors.j0 k bt270.1 bt270.2 bt272.1 bt272.2 bt276.1 bt276.2 bt280.1 bt280.2 (bt280.2 != bt282.2))))))))))) = some r := by rw [if_neg (show ¬ (false = true) by decide)] at H; exact H
    clear H
    have H := H1
    clear H1
    replace H := Option.bind_eq_some_iff.mp H
    obtain ⟨⟨t270, t271⟩, A40, H⟩ := H
    replace H : ((impl_DivFloor.f k t270 t271).bind fun bt272 => ((spec_DivFloor.f k t270 t271).bind fun bt274 => ((impl_AddIn.f t270 t271).bind fun bt276 => ((spec_AddIn.f t270 t271).bind fun bt278 => ((impl_SubIn.f t270 t271).bind fun bt280 => ((spec_SubIn.f t270 t271).bind fun bt282 => (if (bt272.2 != bt274.2) = true then (laws_FnFloors.j0 k t270 t271 bt272.1 bt272.2 bt276.1 bt276.2 bt280.1 bt280.2 true) else (if (bt276.2 != bt278.2) = true then (laws_FnFloors.j0 k t270 t271 bt272.1 bt272.2 bt276.1 bt276.2 bt280.1 bt280.2 true) else (laws_FnFloors.j0 k t270 t271 bt272.1 bt272.2 bt276.1 bt276.2 bt280.1 bt280.2 (bt280.2 != bt282.2)))))))))) = some r := H
    have A4 := Aside0.mk A40
    clear A40
    replace H := Option.bind_eq_some_iff.mp H
    obtain ⟨⟨t272, t273⟩, A50, H⟩ := H
    replace H : ((spec_DivFloor.f k t270 t271).bind fun bt274 => ((impl_AddIn.f t270 t271).bind fun bt276 => ((spec_AddIn.f t270 t271).bind fun bt278 => ((impl_SubIn.f t270 t271).bind fun bt280 => ((spec_SubIn.f t270 t271).bind fun bt282 => (if (t273 != bt274.2) = true then (laws_FnFloors.j0 k t270 t271 t272 t273 bt276.1 bt276.2 bt280.1 bt280.2 true) else (if (bt276.2 != bt278.2) = true then (laws_FnFloors.j0 k t270 t271 t272 t273 bt276.1 bt276.2 bt280.1 bt280.2 true) else (laws_FnFloors.j0 k t270 t271 t272 t273 bt276.1 bt276.2 bt280.1 bt280.2 (bt280.2 != bt282.2))))))))) = some r := H
    have A5 := Aside0.mk A50
    clear A50
    replace H := Option.bind_eq_some_iff.mp H
    obtain ⟨⟨t274, t275⟩, A60, H⟩ := H
    replace H : ((impl_AddIn.f t270 t271).bind fun bt276 => ((spec_AddIn.f t270 t271).bind fun bt278 => ((impl_SubIn.f t270 t271).bind fun bt280 => ((spec_SubIn.f t270 t271).bind fun bt282 => (if (t273 != t275) = true then (laws_FnFloors.j0 k t270 t271 t272 t273 bt276.1 bt276.2 bt280.1 bt280.2 true) else (if (bt276.2 != bt278.2) = true then (laws_FnFloors.j0 k t270 t271 t272 t273 bt276.1 bt276.2 bt280.1 bt280.2 true) else (laws_FnFloors.j0 k t270 t271 t272 t273 bt276.1 bt276.2 bt280.1 bt280.2 (bt280.2 != bt282.2)))))))) = some r := H
    have A6 := Aside0.mk A60
    clear A60
    replace H := Option.bind_eq_some_iff.mp H
    obtain ⟨⟨t276, t277⟩, A70, H⟩ := H
    replace H : ((spec_AddIn.f t270 t271).bind fun bt278 => ((impl_SubIn.f t270 t271).bind fun bt280 => ((spec_SubIn.f t270 t271).bind fun bt282 => (if (t273 != t275) = true then (laws_FnFloors.j0 k t270 t271 t272 t273 t276 t277 bt280.1 bt280.2 true) else (if (t277 != bt278.2) = true then (laws_FnFloors.j0 k t270 t271 t272 t273 t276 t277 bt280.1 bt280.2 true) else (laws_FnFloors.j0 k t270 t271 t272 t273 t276 t277 bt280.1 bt280.2 (bt280.2 != bt282.2))))))) = some r := H
    have A7 := Aside0.mk A70
    clear A70
    replace H := Option.bind_eq_some_iff.mp H
    obtain ⟨⟨t278, t279⟩, A80, H⟩ := H
    replace H : ((impl_SubIn.f t270 t271).bind fun bt280 => ((spec_SubIn.f t270 t271).bind fun bt282 => (if (t273 != t275) = true then (laws_FnFloors.j0 k t270 t271 t272 t273 t276 t277 bt280.1 bt280.2 true) else (if (t277 != t279) = true then (laws_FnFloors.j0 k t270 t271 t272 t273 t276 t277 bt280.1 bt280.2 true) else (laws_FnFloors.j0 k t270 t271 t272 t273 t276 t277 bt280.1 bt280.2 (bt280.2 != bt282.2)))))) = some r := H
    have A8 := Aside0.mk A80
    clear A80
    replace H := Option.bind_eq_some_iff.mp H
    obtain ⟨⟨t280, t281⟩, A90, H⟩ := H
    replace H : ((spec_SubIn.f t270 t271).bind fun bt282 => (if (t273 != t275) = true then (laws_FnFloors.j0 k t270 t271 t272 t273 t276 t277 t280 t281 true) else (if (t277 != t279) = true then (laws_FnFloors.j0 k t270 t271 t272 t273 t276 t277 t280 t281 true) else (laws_FnFloors.j0 k t270 t271 t272 t273 t276 t277 t280 t281 (t281 != bt282.2))))) = some r := H
    have A9 := Aside0.mk A90
    clear A90
    replace H := Option.bind_eq_some_iff.mp H
    obtain ⟨⟨t282, t283⟩, A100, H⟩ := H
    replace H : (if (t273 != t275) = true then (laws_FnFloors.j0 k t270 t271 t272 t273 t276 t277 t280 t281 true) else (if (t277 != t279) = true then (laws_FnFloors.j0 k t270 t271 t272 t273 t276 t277 t280 t281 true) else (laws_FnFloors.j0 k t270 t271 t272 t273 t276 t277 t280 t281 (t281 != t283)))) = some r := H
    have A10 := Aside0.mk A100
    clear A100
    have HC11 := Aside0.mk H
    clear H
    go_enter Try.func11, Try.ntmps11
    go_upto_region 10 with (first | ((with_reducible refine gate_callee (f := 24) rfl ?_); refine goesL_ (some 27) rfl rfl Try.func24 (by kernel_rfl) rfl #[.slice A0 l0.length c0] rfl (by (try simp only [List.map_toArray, List.map_cons, List.map_nil]); first | done | rfl | (simp only [List.length_drop, List.length_take]; rfl)) ?_; (with_reducible refine (laws_big.calls _ _ l0 false _ ?side1 ?side2 A2.out).mono ?_); (case side1 => repeat (first | exact HR0.out | (with_reducible refine Kd.C_alloc ?_ _) | (with_reducible refine Kd.C_drewN ?_ _) | (with_reducible refine Kd.C_drew ?_))); (case side2 => exact HC0.out); rintro e w' ⟨rfl, ⟨nd, rfl⟩⟩; refine ⟨_, rfl, ?_⟩) | ((with_reducible refine gate_callee (f := 26) rfl ?_); refine goesL_ (some 30) rfl rfl Try.func26 (by kernel_rfl) rfl #[.slice A0 l0.length c0] rfl (by (try simp only [List.map_toArray, List.map_cons, List.map_nil]); first | done | rfl | (simp only [List.length_drop, List.length_take]; rfl)) ?_; (with_reducible refine (spec_DrawDivFloor.calls k _ _ l0 t270 t271 _ ?side1 ?side2 A4.out).mono ?_); (case side1 => repeat (first | exact HR0.out | (with_reducible refine Kd.C_alloc ?_ _) | (with_reducible refine Kd.C_drewN ?_ _) | (with_reducible refine Kd.C_drew ?_))); (case side2 => exact HC0.out); rintro e w12 ⟨rfl, hb⟩; refine ⟨_, rfl, ?_⟩; have n0_ := Aside0.mk (below_step (by repeat (first | (with_reducible first | exact HB.out | apply below_alloc | apply pw_below_drewN | apply below_drew1) | exact HB.out)) hb); clear HB; have HB := n0_; clear n0_; (try clear hb); (try clear hb2); (try clear hk); (try clear hi)) | ((with_reducible refine gate_callee (f := 19) rfl ?_); refine goesL_ (some 36) rfl rfl Try.func19 (by kernel_rfl) rfl #[.int .i64 t270, .int .i64 t271] rfl (by (try simp only [List.map_toArray, List.map_cons, List.map_nil]); first | done | rfl | (simp only [List.length_drop, List.length_take]; rfl)) ?_; (with_reducible refine (impl_DivFloor.calls k t270 t271 t272 t273 _ A5.out).mono ?_); rintro e w' ⟨rfl, ⟨nd, rfl⟩⟩; refine ⟨_, rfl, ?_⟩) | ((with_reducible refine gate_callee (f := 18) rfl ?_); refine goesL_ (some 42) rfl rfl Try.func18 (by kernel_rfl) rfl #[.int .i64 t270, .int .i64 t271] rfl (by (try simp only [List.map_toArray, List.map_cons, List.map_nil]); first | done | rfl | (simp only [List.length_drop, List.length_take]; rfl)) ?_; (with_reducible refine (spec_DivFloor.calls k t270 t271 t274 t275 _ A6.out).mono ?_); rintro e w' ⟨rfl, ⟨nd, rfl⟩⟩; refine ⟨_, rfl, ?_⟩) | ((with_reducible refine gate_callee (f := 15) rfl ?_); refine goesL_ (some 48) rfl rfl Try.func15 (by kernel_rfl) rfl #[.int .i64 t270, .int .i64 t271] rfl (by (try simp only [List.map_toArray, List.map_cons, List.map_nil]); first | done | rfl | (simp only [List.length_drop, List.length_take]; rfl)) ?_; (with_reducible refine (impl_AddIn.calls t270 t271 t276 t277 _ A7.out).mono ?_); rintro e w' ⟨rfl, ⟨nd, rfl⟩⟩; refine ⟨_, rfl, ?_⟩) | ((with_reducible refine gate_callee (f := 14) rfl ?_); refine goesL_ (some 54) rfl rfl Try.func14 (by kernel_rfl) rfl #[.int .i64 t270, .int .i64 t271] rfl (by (try simp only [List.map_toArray, List.map_cons, List.map_nil]); first | done | rfl | (simp only [List.length_drop, List.length_take]; rfl)) ?_; (with_reducible refine (spec_AddIn.calls t270 t271 t278 t279 _ A8.out).mono ?_); rintro e w' ⟨rfl, ⟨nd, rfl⟩⟩; refine ⟨_, rfl, ?_⟩) | ((with_reducible refine gate_callee (f := 17) rfl ?_); refine goesL_ (some 60) rfl rfl Try.func17 (by kernel_rfl) rfl #[.int .i64 t270, .int .i64 t271] rfl (by (try simp only [List.map_toArray, List.map_cons, List.map_nil]); first | done | rfl | (simp only [List.length_drop, List.length_take]; rfl)) ?_; (with_reducible refine (impl_SubIn.calls t270 t271 t280 t281 _ A9.out).mono ?_); rintro e w' ⟨rfl, ⟨nd, rfl⟩⟩; refine ⟨_, rfl, ?_⟩) | ((with_reducible refine gate_callee (f := 16) rfl ?_); refine goesL_ (some 66) rfl rfl Try.func16 (by kernel_rfl) rfl #[.int .i64 t270, .int .i64 t271] rfl (by (try simp only [List.map_toArray, List.map_cons, List.map_nil]); first | done | rfl | (simp only [List.length_drop, List.length_take]; rfl)) ?_; (with_reducible refine (spec_SubIn.calls t270 t271 t282 t283 _ A10.out).mono ?_); rintro e w' ⟨rfl, ⟨nd, rfl⟩⟩; refine ⟨_, rfl, ?_⟩))
    (try simp only [Act.put, List.setIfInBounds_toArray, List.set_cons_zero, List.set_cons_succ])
    go_cut [81] (fun v81 wc => ∃ (kq : Nat) (x81_10 : Bool), v81 = .bool x81_10 ∧ Aside0 (laws_FnFloors.j0 kq t270 t271 t272 t273 t276 t277 t280 t281 x81_10 = some r) ∧ Aside0 (kq ≤ k) ∧ Aside0 (Below w.heap.size w wc))
    case first => as_aux_lemma =>
      have H := HC11.out
      clear HC11
      by_cases c13 : (t273 != t275) = true
      · as_aux_lemma =>
        rw [if_pos c13] at H
        have c13b0 : (t273 != t275) = true := c13
        (try (have c13b1 : decide (t273 = t275) = false := by simpa using c13))
        (try (have c13b2 : (t273 == t275) = false := by simpa using c13))
        (try (have c13b3 : ¬ (t273 = t275) := by simpa using c13))
        clear c13
        (first | rw [c13b0] | (simp only [i64_w, i32_w]; rw [c13b0]) | skip)
        have H' := Aside0.mk H
        clear H
        go_wp2
        go_meet
        case rel => exact ⟨_, (true), (by first | rfl | (simp; done) | (simp [*]; done)), H', ⟨by first | omega | exact Nat.le_refl _⟩, ⟨by repeat (first | (with_reducible first | exact HB.out | apply below_alloc | apply pw_below_drewN | apply below_drew1) | exact HB.out)⟩⟩
      · as_aux_lemma =>
        rw [if_neg c13] at H
        have c13b0 : (t273 != t275) = false := by simpa using c13
        (try (have c13b1 : decide (t273 = t275) = true := by simpa using c13))
        (try (have c13b2 : (t273 == t275) = true := by simpa using c13))
        clear c13
        (first | rw [c13b0] | (simp only [i64_w, i32_w]; rw [c13b0]) | skip)
        by_cases c14 : (t277 != t279) = true
        · as_aux_lemma =>
          rw [if_pos c14] at H
          have c14b0 : (t277 != t279) = true := c14
          (try (have c14b1 : decide (t277 = t279) = false := by simpa using c14))
          (try (have c14b2 : (t277 == t279) = false := by simpa using c14))
          (try (have c14b3 : ¬ (t277 = t279) := by simpa using c14))
          clear c14
          have H' := Aside0.mk H
          clear H
          go_wp2
          go_meet
          case rel => exact ⟨_, (true), (by first | rfl | (simp; done) | (simp [*]; done)), H', ⟨by first | omega | exact Nat.le_refl _⟩, ⟨by repeat (first | (with_reducible first | exact HB.out | apply below_alloc | apply pw_below_drewN | apply below_drew1) | exact HB.out)⟩⟩
        · as_aux_lemma =>
          rw [if_neg c14] at H
          have c14b0 : (t277 != t279) = false := by simpa using c14
          (try (have c14b1 : decide (t277 = t279) = true := by simpa using c14))
          (try (have c14b2 : (t277 == t279) = true := by simpa using c14))
          clear c14
          have H' := Aside0.mk H
          clear H
          go_wp2
          go_meet
          case rel => exact ⟨_, ((t281 != t283)), (by first | rfl | (simp; done) | (simp [*]; done)), H', ⟨by first | omega | exact Nat.le_refl _⟩, ⟨by repeat (first | (with_reducible first | exact HB.out | apply below_alloc | apply pw_below_drewN | apply below_drew1) | exact HB.out)⟩⟩
    case rest => as_aux_lemma =>
      clear HC11
      try clear c1
      try clear c2
      try clear p2
      try clear c3
      try clear c11
      try clear c13
      try clear c13b0
      try clear c13b1
      try clear c13b2
      try clear c14
      try clear c14b0
      try clear c14b1
      try clear c14b2
      obtain ⟨kq, x81_10, rfl, HA, HJ10, HB⟩ := hcut
      cases kq with
      | zero => exact absurd HA.out (by simp [laws_FnFloors.j0])
      | succ kj10 =>
        have H := HA.out
        clear HA
        simp only [laws_FnFloors.j0] at H
        by_cases c15 : x81_10 = true
        · as_aux_lemma =>
          subst c15
          have H1 : (some false) = some r := by rw [if_pos rfl] at H; exact H
          clear H
          have H := H1
          clear H1
          obtain rfl := Option.some.inj H
          go_wp2
          go_ret
          exact ⟨by first | rfl | (simp [errW_none, errW_some] <;> rfl) | (simp [*, errW_none, errW_some] <;> rfl), by repeat (first | (with_reducible first | exact HB.out | apply below_alloc | apply pw_below_drewN | apply below_drew1) | exact HB.out)⟩
        · as_aux_lemma =>
          replace c15 := Bool.eq_false_iff.mpr c15
          subst c15
          have H1 : (if t273 = true then (if t271 > 0 then (if (wrap64 (t270 - (wrap64 (t272 * t271)))) < 0 then (some false) else (if (wrap64 (t270 - (wrap64 (t272 * t271)))) ≥ t271 then (some false) else (if t271 < 0 then (if (wrap64 (t270 - (wrap64 (t272 * t271)))) > 0 then (some false) else (if (wrap64 (t270 - (wrap64 (t272 * t271)))) ≤ t271 then (some false) else (laws_FnFloors.j1 kj10 t270 t271 t276 t277 t280 t281))) else (laws_FnFloors.j1 kj10 t270 t271 t276 t277 t280 t281)))) else (if t271 < 0 then (if (wrap64 (t270 - (wrap64 (t272 * t271)))) > 0 then (some false) else (if (wrap64 (t270 - (wrap64 (t272 * t271)))) ≤ t271 then (some false) else (laws_FnFloors.j1 kj10 t270 t271 t276 t277 t280 t281))) else (laws_FnFloors.j1 kj10 t270 t271 t276 t277 t280 t281))) else (laws_FnFloors.j1 kj10 t270 t271 t276 t277 t280 t281)) = some r := by rw [if_neg (show ¬ (false = true) by decide)] at H; exact H
          clear H
          have H := H1
          clear H1
          have HC16 := Aside0.mk H
          clear H
          go_upto_if 82 with (fail)
          go_cut [] (fun wc => ∃ (kq : Nat), Aside0 (laws_FnFloors.j1 kq t270 t271 t276 t277 t280 t281 = some r) ∧ Aside0 (kq ≤ kj10) ∧ Aside0 (Below w.heap.size w wc))
          case first => as_aux_lemma =>
            have H := HC16.out
            clear HC16
            by_cases c17 : t273 = true
            · as_aux_lemma =>
              subst c17
              have H1 : (if t271 > 0 then (if (wrap64 (t270 - (wrap64 (t272 * t271)))) < 0 then (some false) else (if (wrap64 (t270 - (wrap64 (t272 * t271)))) ≥ t271 then (some false) else (if t271 < 0 then (if (wrap64 (t270 - (wrap64 (t272 * t271)))) > 0 then (some false) else (if (wrap64 (t270 - (wrap64 (t272 * t271)))) ≤ t271 then (some false) else (laws_FnFloors.j1 kj10 t270 t271 t276 t277 t280 t281))) else (laws_FnFloors.j1 kj10 t270 t271 t276 t277 t280 t281)))) else (if t271 < 0 then (if (wrap64 (t270 - (wrap64 (t272 * t271)))) > 0 then (some false) else (if (wrap64 (t270 - (wrap64 (t272 * t271)))) ≤ t271 then (some false) else (laws_FnFloors.j1 kj10 t270 t271 t276 t277 t280 t281))) else (laws_FnFloors.j1 kj10 t270 t271 t276 t277 t280 t281))) = some r := by rw [if_pos rfl] at H; exact H
              clear H
              have H := H1
              clear H1
              by_cases c18 : t271 > 0
              · as_aux_lemma =>
                rw [if_pos c18] at H
                have c18b0 : decide (0 < t271) = true := decide_eq_true c18
                clear c18
                (first | rw [c18b0] | (simp only [i64_w, i32_w]; rw [c18b0]) | skip)
                by_cases c19 : (wrap64 (t270 - (wrap64 (t272 * t271)))) < 0
                · as_aux_lemma =>
                  rw [if_pos c19] at H
                  have c19b0 : decide ((wrap64 (t270 - (wrap64 (t272 * t271)))) < 0) = true := decide_eq_true c19
                  clear c19
                  obtain rfl := Option.some.inj H
                  go_wp2
                  go_ret
                  exact ⟨by first | rfl | (simp [errW_none, errW_some] <;> rfl) | (simp [*, errW_none, errW_some] <;> rfl), by repeat (first | (with_reducible first | exact HB.out | apply below_alloc | apply pw_below_drewN | apply below_drew1) | exact HB.out)⟩
                · as_aux_lemma =>
                  rw [if_neg c19] at H
                  have c19b0 : decide ((wrap64 (t270 - (wrap64 (t272 * t271)))) < 0) = false := decide_eq_false c19
                  clear c19
                  by_cases c20 : (wrap64 (t270 - (wrap64 (t272 * t271)))) ≥ t271
                  · as_aux_lemma =>
                    rw [if_pos c20] at H
                    have c20b0 : decide (t271 ≤ (wrap64 (t270 - (wrap64 (t272 * t271))))) = true := decide_eq_true c20
                    clear c20
                    obtain rfl := Option.some.inj H
                    go_wp2
                    go_ret
                    exact ⟨by first | rfl | (simp [errW_none, errW_some] <;> rfl) | (simp [*, errW_none, errW_some] <;> rfl), by repeat (first | (with_reducible first | exact HB.out | apply below_alloc | apply pw_below_drewN | apply below_drew1) | exact HB.out)⟩
                  · as_aux_lemma =>
                    rw [if_neg c20] at H
                    have c20b0 : decide (t271 ≤ (wrap64 (t270 - (wrap64 (t272 * t271))))) = false := decide_eq_false c20
                    clear c20
                    by_cases c21 : t271 < 0
                    · as_aux_lemma =>
                      rw [if_pos c21] at H
                      have c21b0 : decide (t271 < 0) = true := decide_eq_true c21
                      clear c21
                      by_cases c22 : (wrap64 (t270 - (wrap64 (t272 * t271)))) > 0
                      · as_aux_lemma =>
                        rw [if_pos c22] at H
                        have c22b0 : decide (0 < (wrap64 (t270 - (wrap64 (t272 * t271))))) = true := decide_eq_true c22
                        clear c22
                        obtain rfl := Option.some.inj H
                        go_wp2
                        go_ret
                        exact ⟨by first | rfl | (simp [errW_none, errW_some] <;> rfl) | (simp [*, errW_none, errW_some] <;> rfl), by repeat (first | (with_reducible first | exact HB.out | apply below_alloc | apply pw_below_drewN | apply below_drew1) | exact HB.out)⟩
                      · as_aux_lemma =>
                        rw [if_neg c22] at H
                        have c22b0 : decide (0 < (wrap64 (t270 - (wrap64 (t272 * t271))))) = false := decide_eq_false c22
                        clear c22
                        by_cases c23 : (wrap64 (t270 - (wrap64 (t272 * t271)))) ≤ t271
                        · as_aux_lemma =>
                          rw [if_pos c23] at H
                          have c23b0 : decide ((wrap64 (t270 - (wrap64 (t272 * t271)))) ≤ t271) = true := decide_eq_true c23
                          clear c23
                          obtain rfl := Option.some.inj H
                          go_wp2
                          go_ret
                          exact ⟨by first | rfl | (simp [errW_none, errW_some] <;> rfl) | (simp [*, errW_none, errW_some] <;> rfl), by repeat (first | (with_reducible first | exact HB.out | apply below_alloc | apply pw_below_drewN | apply below_drew1) | exact HB.out)⟩
                        · as_aux_lemma =>
                          rw [if_neg c23] at H
                          have c23b0 : decide ((wrap64 (t270 - (wrap64 (t272 * t271)))) ≤ t271) = false := decide_eq_false c23
                          clear c23
                          have H' := Aside0.mk H
                          clear H
                          go_wp2
                          go_meet
                          case rel => exact ⟨_, H', ⟨by have := HJ10.out; first | omega | exact Nat.le_refl _⟩, ⟨by repeat (first | (with_reducible first | exact HB.out | apply below_alloc | apply pw_below_drewN | apply below_drew1) | exact HB.out)⟩⟩
                    · as_aux_lemma =>
                      rw [if_neg c21] at H
                      have c21b0 : decide (t271 < 0) = false := decide_eq_false c21
                      clear c21
                      have H' := Aside0.mk H
                      clear H
                      go_wp2
                      go_meet
                      case rel => exact ⟨_, H', ⟨by have := HJ10.out; first | omega | exact Nat.le_refl _⟩, ⟨by repeat (first | (with_reducible first | exact HB.out | apply below_alloc | apply pw_below_drewN | apply below_drew1) | exact HB.out)⟩⟩
              · as_aux_lemma =>
                rw [if_neg c18] at H
                have c18b0 : decide (0 < t271) = false := decide_eq_false c18
                clear c18
                (first | rw [c18b0] | (simp only [i64_w, i32_w]; rw [c18b0]) | skip)
                by_cases c24 : t271 < 0
                · as_aux_lemma =>
                  rw [if_pos c24] at H
                  have c24b0 : decide (t271 < 0) = true := decide_eq_true c24
                  clear c24
                  by_cases c25 : (wrap64 (t270 - (wrap64 (t272 * t271)))) > 0
                  · as_aux_lemma =>
                    rw [if_pos c25] at H
                    have c25b0 : decide (0 < (wrap64 (t270 - (wrap64 (t272 * t271))))) = true := decide_eq_true c25
                    clear c25
                    obtain rfl := Option.some.inj H
                    go_wp2
                    go_ret
                    exact ⟨by first | rfl | (simp [errW_none, errW_some] <;> rfl) | (simp [*, errW_none, errW_some] <;> rfl), by repeat (first | (with_reducible first | exact HB.out | apply below_alloc | apply pw_below_drewN | apply below_drew1) | exact HB.out)⟩
                  · as_aux_lemma =>
                    rw [if_neg c25] at H
                    have c25b0 : decide (0 < (wrap64 (t270 - (wrap64 (t272 * t271))))) = false := decide_eq_false c25
                    clear c25
                    by_cases c26 : (wrap64 (t270 - (wrap64 (t272 * t271)))) ≤ t271
                    · as_aux_lemma =>
                      rw [if_pos c26] at H
                      have c26b0 : decide ((wrap64 (t270 - (wrap64 (t272 * t271)))) ≤ t271) = true := decide_eq_true c26
                      clear c26
                      obtain rfl := Option.some.inj H
                      go_wp2
                      go_ret
                      exact ⟨by first | rfl | (simp [errW_none, errW_some] <;> rfl) | (simp [*, errW_none, errW_some] <;> rfl), by repeat (first | (with_reducible first | exact HB.out | apply below_alloc | apply pw_below_drewN | apply below_drew1) | exact HB.out)⟩
                    · as_aux_lemma =>
                      rw [if_neg c26] at H
                      have c26b0 : decide ((wrap64 (t270 - (wrap64 (t272 * t271)))) ≤ t271) = false := decide_eq_false c26
                      clear c26
                      have H' := Aside0.mk H
                      clear H
                      go_wp2
                      go_meet
                      case rel => exact ⟨_, H', ⟨by have := HJ10.out; first | omega | exact Nat.le_refl _⟩, ⟨by repeat (first | (with_reducible first | exact HB.out | apply below_alloc | apply pw_below_drewN | apply below_drew1) | exact HB.out)⟩⟩
                · as_aux_lemma =>
                  rw [if_neg c24] at H
                  have c24b0 : decide (t271 < 0) = false := decide_eq_false c24
                  clear c24
                  have H' := Aside0.mk H
                  clear H
                  go_wp2
                  go_meet
                  case rel => exact ⟨_, H', ⟨by have := HJ10.out; first | omega | exact Nat.le_refl _⟩, ⟨by repeat (first | (with_reducible first | exact HB.out | apply below_alloc | apply pw_below_drewN | apply below_drew1) | exact HB.out)⟩⟩
            · as_aux_lemma =>
              replace c17 := Bool.eq_false_iff.mpr c17
              subst c17
              have H1 : (laws_FnFloors.j1 kj10 t270 t271 t276 t277 t280 t281) = some r := by rw [if_neg (show ¬ (false = true) by decide)] at H; exact H
              clear H
              have H := H1
              clear H1
              have H' := Aside0.mk H
              clear H
              go_wp2
              go_meet
              case rel => exact ⟨_, H', ⟨by have := HJ10.out; first | omega | exact Nat.le_refl _⟩, ⟨by repeat (first | (with_reducible first | exact HB.out | apply below_alloc | apply pw_below_drewN | apply below_drew1) | exact HB.out)⟩⟩
          case rest => as_aux_lemma =>
            clear HC16
            try clear c1
            try clear c2
            try clear p2
            try clear c3
            try clear p6
            try clear c11
            try clear c13
            try clear c13b0
            try clear c13b1
            try clear c13b2
            try clear c14
            try clear c14b0
            try clear c14b1
            try clear c14b2
            try clear c15
            try clear c16
            try clear c17
            try clear c18
            try clear c18b0
            try clear c19
            try clear c19b0
            try clear c20
            try clear c20b0
            try clear c21
            try clear c21b0
            try clear c22
            try clear c22b0
            try clear c23
            try clear c23b0
            try clear c24
            try clear c24b0
            try clear c25
            try clear c25b0
            try clear c26
            try clear c26b0
            try clear p2
            obtain ⟨kq, HA, HJ15, HB⟩ := hcut
            cases kq with
            | zero => exact absurd HA.out (by simp [laws_FnFloors.j1])
            | succ kj15 =>
              have H := HA.out
              clear HA
              simp only [laws_FnFloors.j1] at H
              have HC27 := Aside0.mk H
              clear H
              go_upto_if 112 with (fail)
              go_cut [] (fun wc => ∃ (kq : Nat), Aside0 (laws_FnFloors.j2 kq t270 t271 t280 t281 = some r) ∧ Aside0 (kq ≤ kj15) ∧ Aside0 (Below w.heap.size w wc))
              case first => as_aux_lemma =>
                have H := HC27.out
                clear HC27
                by_cases c28 : t277 = true
                · as_aux_lemma =>
                  subst c28
                  have H1 : ((impl_SubIn.f t276 t271).bind fun bt284 => (if bt284.2 = true then (if bt284.1 = t270 then ((impl_AmountOk.f t276).bind fun t286 => (if t286 = true then (laws_FnFloors.j2 kj15 t270 t271 t280 t281) else (some false))) else (some false)) else (some false))) = some r := by rw [if_pos rfl] at H; exact H
                  clear H
                  have H := H1
                  clear H1
                  replace H := Option.bind_eq_some_iff.mp H
                  obtain ⟨⟨t284, t285⟩, A290, H⟩ := H
                  replace H : (if t285 = true then (if t284 = t270 then ((impl_AmountOk.f t276).bind fun t286 => (if t286 = true then (laws_FnFloors.j2 kj15 t270 t271 t280 t281) else (some false))) else (some false)) else (some false)) = some r := H
                  have A29 := Aside0.mk A290
                  clear A290
                  by_cases c30 : t285 = true
                  · as_aux_lemma =>
                    subst c30
                    have H1 : (if t284 = t270 then ((impl_AmountOk.f t276).bind fun t286 => (if t286 = true then (laws_FnFloors.j2 kj15 t270 t271 t280 t281) else (some false))) else (some false)) = some r := by rw [if_pos rfl] at H; exact H
                    clear H
                    have H := H1
                    clear H1
                    by_cases c31 : t284 = t270
                    · as_aux_lemma =>
                      rw [if_pos c31] at H
                      have c31b0 : (t284 == t270) = true := beq_iff_eq.mpr c31
                      have c31b1 : (t284 != t270) = false := bne_eq_false_iff_eq.mpr c31
                      clear c31
                      (first | rw [c31b0] | (simp only [i64_w, i32_w]; rw [c31b0]) | skip)
                      replace H := Option.bind_eq_some_iff.mp H
                      obtain ⟨t286, A320, H⟩ := H
                      replace H : (if t286 = true then (laws_FnFloors.j2 kj15 t270 t271 t280 t281) else (some false)) = some r := H
                      have A32 := Aside0.mk A320
                      clear A320
                      by_cases c33 : t286 = true
                      · as_aux_lemma =>
                        subst c33
                        have H1 : (laws_FnFloors.j2 kj15 t270 t271 t280 t281) = some r := by rw [if_pos rfl] at H; exact H
                        clear H
                        have H := H1
                        clear H1
                        have H' := Aside0.mk H
                        clear H
                        go_wp2_with (first | ((with_reducible refine gate_callee (f := 17) rfl ?_); refine goesL_ (some 116) rfl rfl Try.func17 (by kernel_rfl) rfl #[.int .i64 t276, .int .i64 t271] rfl (by (try simp only [List.map_toArray, List.map_cons, List.map_nil]); first | done | rfl | (simp only [List.length_drop, List.length_take]; rfl)) ?_; (with_reducible refine (impl_SubIn.calls t276 t271 t284 true _ A29.out).mono ?_); rintro e w' ⟨rfl, ⟨nd, rfl⟩⟩; refine ⟨_, rfl, ?_⟩) | (go_at_call 13; (with_reducible refine (impl_AmountOk.calls t276 true _ A32.out).mono ?_); rintro e w' ⟨rfl, ⟨nd, rfl⟩⟩))
                        go_meet
                        case rel => exact ⟨_, H', ⟨by have := HJ10.out; have := HJ15.out; first | omega | exact Nat.le_refl _⟩, ⟨by repeat (first | (with_reducible first | exact HB.out | apply below_alloc | apply pw_below_drewN | apply below_drew1) | exact HB.out)⟩⟩
                      · as_aux_lemma =>
                        replace c33 := Bool.eq_false_iff.mpr c33
                        subst c33
                        have H1 : (some false) = some r := by rw [if_neg (show ¬ (false = true) by decide)] at H; exact H
                        clear H
                        have H := H1
                        clear H1
                        obtain rfl := Option.some.inj H
                        go_wp2_with (first | ((with_reducible refine gate_callee (f := 17) rfl ?_); refine goesL_ (some 116) rfl rfl Try.func17 (by kernel_rfl) rfl #[.int .i64 t276, .int .i64 t271] rfl (by (try simp only [List.map_toArray, List.map_cons, List.map_nil]); first | done | rfl | (simp only [List.length_drop, List.length_take]; rfl)) ?_; (with_reducible refine (impl_SubIn.calls t276 t271 t284 true _ A29.out).mono ?_); rintro e w' ⟨rfl, ⟨nd, rfl⟩⟩; refine ⟨_, rfl, ?_⟩) | (go_at_call 13; (with_reducible refine (impl_AmountOk.calls t276 false _ A32.out).mono ?_); rintro e w' ⟨rfl, ⟨nd, rfl⟩⟩))
                        go_ret
                        exact ⟨by first | rfl | (simp [errW_none, errW_some] <;> rfl) | (simp [*, errW_none, errW_some] <;> rfl), by repeat (first | (with_reducible first | exact HB.out | apply below_alloc | apply pw_below_drewN | apply below_drew1) | exact HB.out)⟩
                    · as_aux_lemma =>
                      rw [if_neg c31] at H
                      have c31b0 : (t284 == t270) = false := beq_eq_false_iff_ne.mpr c31
                      have c31b1 : (t284 != t270) = true := bne_iff_ne.mpr c31
                      (first | rw [c31b0] | (simp only [i64_w, i32_w]; rw [c31b0]) | skip)
                      obtain rfl := Option.some.inj H
                      go_wp2_with (first | ((with_reducible refine gate_callee (f := 17) rfl ?_); refine goesL_ (some 116) rfl rfl Try.func17 (by kernel_rfl) rfl #[.int .i64 t276, .int .i64 t271] rfl (by (try simp only [List.map_toArray, List.map_cons, List.map_nil]); first | done | rfl | (simp only [List.length_drop, List.length_take]; rfl)) ?_; (with_reducible refine (impl_SubIn.calls t276 t271 t284 true _ A29.out).mono ?_); rintro e w' ⟨rfl, ⟨nd, rfl⟩⟩; refine ⟨_, rfl, ?_⟩))
                      go_ret
                      exact ⟨by first | rfl | (simp [errW_none, errW_some] <;> rfl) | (simp [*, errW_none, errW_some] <;> rfl), by repeat (first | (with_reducible first | exact HB.out | apply below_alloc | apply pw_below_drewN | apply below_drew1) | exact HB.out)⟩
                  · as_aux_lemma =>
                    replace c30 := Bool.eq_false_iff.mpr c30
                    subst c30
                    have H1 : (some false) = some r := by rw [if_neg (show ¬ (false = true) by decide)] at H; exact H
                    clear H
                    have H := H1
                    clear H1
                    obtain rfl := Option.some.inj H
                    go_wp2_with (first | ((with_reducible refine gate_callee (f := 17) rfl ?_); refine goesL_ (some 116) rfl rfl Try.func17 (by kernel_rfl) rfl #[.int .i64 t276, .int .i64 t271] rfl (by (try simp only [List.map_toArray, List.map_cons, List.map_nil]); first | done | rfl | (simp only [List.length_drop, List.length_take]; rfl)) ?_; (with_reducible refine (impl_SubIn.calls t276 t271 t284 false _ A29.out).mono ?_); rintro e w' ⟨rfl, ⟨nd, rfl⟩⟩; refine ⟨_, rfl, ?_⟩))
                    go_ret
                    exact ⟨by first | rfl | (simp [errW_none, errW_some] <;> rfl) | (simp [*, errW_none, errW_some] <;> rfl), by repeat (first | (with_reducible first | exact HB.out | apply below_alloc | apply pw_below_drewN | apply below_drew1) | exact HB.out)⟩
                · as_aux_lemma =>
                  replace c28 := Bool.eq_false_iff.mpr c28
                  subst c28
                  have H1 : (laws_FnFloors.j2 kj15 t270 t271 t280 t281) = some r := by rw [if_neg (show ¬ (false = true) by decide)] at H; exact H
                  clear H
                  have H := H1
                  clear H1
                  have H' := Aside0.mk H
                  clear H
                  go_wp2
                  go_meet
                  case rel => exact ⟨_, H', ⟨by have := HJ10.out; have := HJ15.out; first | omega | exact Nat.le_refl _⟩, ⟨by repeat (first | (with_reducible first | exact HB.out | apply below_alloc | apply pw_below_drewN | apply below_drew1) | exact HB.out)⟩⟩
              case rest => as_aux_lemma =>
                clear HC27
                try clear c1
                try clear c2
                try clear p2
                try clear c3
                try clear p6
                try clear c11
                try clear c13
                try clear c13b0
                try clear c13b1
                try clear c13b2
                try clear c14
                try clear c14b0
                try clear c14b1
                try clear c14b2
                try clear c15
                try clear c16
                try clear c17
                try clear c18
                try clear c18b0
                try clear c19
                try clear c19b0
                try clear c20
                try clear c20b0
                try clear c21
                try clear c21b0
                try clear c22
                try clear c22b0
                try clear c23
                try clear c23b0
                try clear c24
                try clear c24b0
                try clear c25
                try clear c25b0
                try clear c26
                try clear c26b0
                try clear c28
                try clear c30
                try clear c31
                try clear c31b0
                try clear c31b1
                try clear c33
                try clear p2
                try clear p6
                obtain ⟨kq, HA, HJ26, HB⟩ := hcut
                cases kq with
                | zero => exact absurd HA.out (by simp [laws_FnFloors.j2])
                | succ kj26 =>
                  have H := HA.out
                  clear HA
                  simp only [laws_FnFloors.j2] at H
                  by_cases c34 : t281 = true
                  · as_aux_lemma =>
                    subst c34
                    have H1 : ((impl_AddIn.f t280 t271).bind fun bt287 => (if bt287.2 = true then (laws_FnFloors.j3 kj26 t270 t271 (bt287.1 != t270)) else (laws_FnFloors.j3 kj26 t270 t271 true))) = some r := by rw [if_pos rfl] at H; exact H
                    clear H
                    have H := H1
                    clear H1
                    replace H := Option.bind_eq_some_iff.mp H
                    obtain ⟨⟨t287, t288⟩, A350, H⟩ := H
                    replace H : (if t288 = true then (laws_FnFloors.j3 kj26 t270 t271 (t287 != t270)) else (laws_FnFloors.j3 kj26 t270 t271 true)) = some r := H
                    have A35 := Aside0.mk A350
                    clear A350
                    have HC36 := Aside0.mk H
                    clear H
                    go_upto_region 22 with (first | ((with_reducible refine gate_callee (f := 15) rfl ?_); refine goesL_ (some 135) rfl rfl Try.func15 (by kernel_rfl) rfl #[.int .i64 t280, .int .i64 t271] rfl (by (try simp only [List.map_toArray, List.map_cons, List.map_nil]); first | done | rfl | (simp only [List.length_drop, List.length_take]; rfl)) ?_; (with_reducible refine (impl_AddIn.calls t280 t271 t287 t288 _ A35.out).mono ?_); rintro e w' ⟨rfl, ⟨nd, rfl⟩⟩; refine ⟨_, rfl, ?_⟩))
                    (try simp only [Act.put, List.setIfInBounds_toArray, List.set_cons_zero, List.set_cons_succ])
                    go_cut [144] (fun v144 wc => ∃ (kq : Nat) (x144_35 : Bool), v144 = .bool x144_35 ∧ Aside0 (laws_FnFloors.j3 kq t270 t271 x144_35 = some r) ∧ Aside0 (kq ≤ kj26) ∧ Aside0 (Below w.heap.size w wc))
                    case first => as_aux_lemma =>
                      have H := HC36.out
                      clear HC36
                      by_cases c37 : t288 = true
                      · as_aux_lemma =>
                        subst c37
                        have H1 : (laws_FnFloors.j3 kj26 t270 t271 (t287 != t270)) = some r := by rw [if_pos rfl] at H; exact H
                        clear H
                        have H := H1
                        clear H1
                        have H' := Aside0.mk H
                        clear H
                        go_wp2
                        go_meet
                        case rel => exact ⟨_, ((t287 != t270)), (by first | rfl | (simp; done) | (simp [*]; done)), H', ⟨by have := HJ10.out; have := HJ15.out; have := HJ26.out; first | omega | exact Nat.le_refl _⟩, ⟨by repeat (first | (with_reducible first | exact HB.out | apply below_alloc | apply pw_below_drewN | apply below_drew1) | exact HB.out)⟩⟩
                      · as_aux_lemma =>
                        replace c37 := Bool.eq_false_iff.mpr c37
                        subst c37
                        have H1 : (laws_FnFloors.j3 kj26 t270 t271 true) = some r := by rw [if_neg (show ¬ (false = true) by decide)] at H; exact H
                        clear H
                        have H := H1
                        clear H1
                        have H' := Aside0.mk H
                        clear H
                        go_wp2
                        go_meet
                        case rel => exact ⟨_, (true), (by first | rfl | (simp; done) | (simp [*]; done)), H', ⟨by have := HJ10.out; have := HJ15.out; have := HJ26.out; first | omega | exact Nat.le_refl _⟩, ⟨by repeat (first | (with_reducible first | exact HB.out | apply below_alloc | apply pw_below_drewN | apply below_drew1) | exact HB.out)⟩⟩
                    case rest => as_aux_lemma =>
                      clear HC36
                      try clear c1
                      try clear c2
                      try clear p2
                      try clear c3
                      try clear p6
                      try clear c11
                      try clear c13
                      try clear c13b0
                      try clear c13b1
                      try clear c13b2
                      try clear c14
                      try clear c14b0
                      try clear c14b1
                      try clear c14b2
                      try clear c15
                      try clear c16
                      try clear c17
                      try clear c18
                      try clear c18b0
                      try clear c19
                      try clear c19b0
                      try clear c20
                      try clear c20b0
                      try clear c21
                      try clear c21b0
                      try clear c22
                      try clear c22b0
                      try clear c23
                      try clear c23b0
                      try clear c24
                      try clear c24b0
                      try clear c25
                      try clear c25b0
                      try clear c26
                      try clear c26b0
                      try clear c28
                      try clear c30
                      try clear c31
                      try clear c31b0
                      try clear c31b1
                      try clear c33
                      try clear c34
                      try clear c37
                      try clear p2
                      try clear p6
                      obtain ⟨kq, x144_35, rfl, HA, HJ35, HB⟩ := hcut
                      cases kq with
                      | zero => exact absurd HA.out (by simp [laws_FnFloors.j3])
                      | succ kj35 =>
                        have H := HA.out
                        clear HA
                        simp only [laws_FnFloors.j3] at H
                        by_cases c38 : x144_35 = true
                        · as_aux_lemma =>
                          subst c38
                          have H1 : (some false) = some r := by rw [if_pos rfl] at H; exact H
                          clear H
                          have H := H1
                          clear H1
                          obtain rfl := Option.some.inj H
                          go_wp2
                          go_ret
                          exact ⟨by first | rfl | (simp [errW_none, errW_some] <;> rfl) | (simp [*, errW_none, errW_some] <;> rfl), by repeat (first | (with_reducible first | exact HB.out | apply below_alloc | apply pw_below_drewN | apply below_drew1) | exact HB.out)⟩
                        · as_aux_lemma =>
                          replace c38 := Bool.eq_false_iff.mpr c38
                          subst c38
                          have H1 : ((impl_MulIn.f kj35 t270 t271).bind fun bt289 => ((spec_MulIn.f kj35 t270 t271).bind fun bt291 => (if (bt289.2 == bt291.2) = true then (if bt289.2 = true then (if t270 = 0 then (if bt289.1 = 0 then (some true) else (some false)) else (if (wrap64 (Int.tdiv bt289.1 t270)) = t271 then (some ((Int.tmod bt289.1 t270) == 0)) else (some false))) else (some true)) else (some false)))) = some r := by rw [if_neg (show ¬ (false = true) by decide)] at H; exact H
                          clear H
                          have H := H1
                          clear H1
                          replace H := Option.bind_eq_some_iff.mp H
                          obtain ⟨⟨t289, t290⟩, A390, H⟩ := H
                          replace H : ((spec_MulIn.f kj35 t270 t271).bind fun bt291 => (if (t290 == bt291.2) = true then (if t290 = true then (if t270 = 0 then (if t289 = 0 then (some true) else (some false)) else (if (wrap64 (Int.tdiv t289 t270)) = t271 then (some ((Int.tmod t289 t270) == 0)) else (some false))) else (some true)) else (some false))) = some r := H
                          have A39 := Aside0.mk A390
                          clear A390
                          replace H := Option.bind_eq_some_iff.mp H
                          obtain ⟨⟨t291, t292⟩, A400, H⟩ := H
                          replace H : (if (t290 == t292) = true then (if t290 = true then (if t270 = 0 then (if t289 = 0 then (some true) else (some false)) else (if (wrap64 (Int.tdiv t289 t270)) = t271 then (some ((Int.tmod t289 t270) == 0)) else (some false))) else (some true)) else (some false)) = some r := H
                          have A40 := Aside0.mk A400
                          clear A400
                          by_cases c41 : (t290 == t292) = true
                          · as_aux_lemma =>
                            rw [if_pos c41] at H
                            have c41b0 : (t290 == t292) = true := c41
                            (try (have c41b1 : decide (t290 = t292) = true := by simpa using c41))
                            (try (have c41b2 : (t290 == t292) = true := by simpa using c41))
                            clear c41
                            by_cases c42 : t290 = true
                            · as_aux_lemma =>
                              subst c42
                              have H1 : (if t270 = 0 then (if t289 = 0 then (some true) else (some false)) else (if (wrap64 (Int.tdiv t289 t270)) = t271 then (some ((Int.tmod t289 t270) == 0)) else (some false))) = some r := by rw [if_pos rfl] at H; exact H
                              clear H
                              have H := H1
                              clear H1
                              by_cases c43 : t270 = 0
                              · as_aux_lemma =>
                                rw [if_pos c43] at H
                                have c43b0 : (t270 == 0) = true := beq_iff_eq.mpr c43
                                have c43b1 : (t270 != 0) = false := bne_eq_false_iff_eq.mpr c43
                                clear c43
                                by_cases c44 : t289 = 0
                                · as_aux_lemma =>
                                  rw [if_pos c44] at H
                                  have c44b0 : (t289 == 0) = true := beq_iff_eq.mpr c44
                                  have c44b1 : (t289 != 0) = false := bne_eq_false_iff_eq.mpr c44
                                  clear c44
                                  obtain rfl := Option.some.inj H
                                  go_wp2_with (first | ((with_reducible refine gate_callee (f := 21) rfl ?_); refine goesL_ (some 148) rfl rfl Try.func21 (by kernel_rfl) rfl #[.int .i64 t270, .int .i64 t271] rfl (by (try simp only [List.map_toArray, List.map_cons, List.map_nil]); first | done | rfl | (simp only [List.length_drop, List.length_take]; rfl)) ?_; (with_reducible refine (impl_MulIn.calls kj35 t270 t271 t289 true _ A39.out).mono ?_); rintro e w' ⟨rfl, ⟨nd, rfl⟩⟩; refine ⟨_, rfl, ?_⟩) | ((with_reducible refine gate_callee (f := 20) rfl ?_); refine goesL_ (some 154) rfl rfl Try.func20 (by kernel_rfl) rfl #[.int .i64 t270, .int .i64 t271] rfl (by (try simp only [List.map_toArray, List.map_cons, List.map_nil]); first | done | rfl | (simp only [List.length_drop, List.length_take]; rfl)) ?_; (with_reducible refine (spec_MulIn.calls kj35 t270 t271 t291 t292 _ A40.out).mono ?_); rintro e w' ⟨rfl, ⟨nd, rfl⟩⟩; refine ⟨_, rfl, ?_⟩))
                                  go_ret
                                  exact ⟨by first | rfl | (simp [errW_none, errW_some] <;> rfl) | (simp [*, errW_none, errW_some] <;> rfl), by repeat (first | (with_reducible first | exact HB.out | apply below_alloc | apply pw_below_drewN | apply below_drew1) | exact HB.out)⟩
                                · as_aux_lemma =>
                                  rw [if_neg c44] at H
                                  have c44b0 : (t289 == 0) = false := beq_eq_false_iff_ne.mpr c44
                                  have c44b1 : (t289 != 0) = true := bne_iff_ne.mpr c44
                                  obtain rfl := Option.some.inj H
                                  go_wp2_with (first | ((with_reducible refine gate_callee (f := 21) rfl ?_); refine goesL_ (some 148) rfl rfl Try.func21 (by kernel_rfl) rfl #[.int .i64 t270, .int .i64 t271] rfl (by (try simp only [List.map_toArray, List.map_cons, List.map_nil]); first | done | rfl | (simp only [List.length_drop, List.length_take]; rfl)) ?_; (with_reducible refine (impl_MulIn.calls kj35 t270 t271 t289 true _ A39.out).mono ?_); rintro e w' ⟨rfl, ⟨nd, rfl⟩⟩; refine ⟨_, rfl, ?_⟩) | ((with_reducible refine gate_callee (f := 20) rfl ?_); refine goesL_ (some 154) rfl rfl Try.func20 (by kernel_rfl) rfl #[.int .i64 t270, .int .i64 t271] rfl (by (try simp only [List.map_toArray, List.map_cons, List.map_nil]); first | done | rfl | (simp only [List.length_drop, List.length_take]; rfl)) ?_; (with_reducible refine (spec_MulIn.calls kj35 t270 t271 t291 t292 _ A40.out).mono ?_); rintro e w' ⟨rfl, ⟨nd, rfl⟩⟩; refine ⟨_, rfl, ?_⟩))
                                  go_ret
                                  exact ⟨by first | rfl | (simp [errW_none, errW_some] <;> rfl) | (simp [*, errW_none, errW_some] <;> rfl), by repeat (first | (with_reducible first | exact HB.out | apply below_alloc | apply pw_below_drewN | apply below_drew1) | exact HB.out)⟩
                              · as_aux_lemma =>
                                rw [if_neg c43] at H
                                have c43b0 : (t270 == 0) = false := beq_eq_false_iff_ne.mpr c43
                                have c43b1 : (t270 != 0) = true := bne_iff_ne.mpr c43
                                by_cases c45 : (wrap64 (Int.tdiv t289 t270)) = t271
                                · as_aux_lemma =>
                                  rw [if_pos c45] at H
                                  have c45b0 : ((wrap64 (Int.tdiv t289 t270)) == t271) = true := beq_iff_eq.mpr c45
                                  have c45b1 : ((wrap64 (Int.tdiv t289 t270)) != t271) = false := bne_eq_false_iff_eq.mpr c45
                                  clear c45
                                  obtain rfl := Option.some.inj H
                                  go_wp2_with (first | ((with_reducible refine gate_callee (f := 21) rfl ?_); refine goesL_ (some 148) rfl rfl Try.func21 (by kernel_rfl) rfl #[.int .i64 t270, .int .i64 t271] rfl (by (try simp only [List.map_toArray, List.map_cons, List.map_nil]); first | done | rfl | (simp only [List.length_drop, List.length_take]; rfl)) ?_; (with_reducible refine (impl_MulIn.calls kj35 t270 t271 t289 true _ A39.out).mono ?_); rintro e w' ⟨rfl, ⟨nd, rfl⟩⟩; refine ⟨_, rfl, ?_⟩) | ((with_reducible refine gate_callee (f := 20) rfl ?_); refine goesL_ (some 154) rfl rfl Try.func20 (by kernel_rfl) rfl #[.int .i64 t270, .int .i64 t271] rfl (by (try simp only [List.map_toArray, List.map_cons, List.map_nil]); first | done | rfl | (simp only [List.length_drop, List.length_take]; rfl)) ?_; (with_reducible refine (spec_MulIn.calls kj35 t270 t271 t291 t292 _ A40.out).mono ?_); rintro e w' ⟨rfl, ⟨nd, rfl⟩⟩; refine ⟨_, rfl, ?_⟩))
                                  go_ret
                                  exact ⟨by first | rfl | (simp [errW_none, errW_some] <;> rfl) | (simp [*, errW_none, errW_some] <;> rfl), by repeat (first | (with_reducible first | exact HB.out | apply below_alloc | apply pw_below_drewN | apply below_drew1) | exact HB.out)⟩
                                · as_aux_lemma =>
                                  rw [if_neg c45] at H
                                  have c45b0 : ((wrap64 (Int.tdiv t289 t270)) == t271) = false := beq_eq_false_iff_ne.mpr c45
                                  have c45b1 : ((wrap64 (Int.tdiv t289 t270)) != t271) = true := bne_iff_ne.mpr c45
                                  obtain rfl := Option.some.inj H
                                  go_wp2_with (first | ((with_reducible refine gate_callee (f := 21) rfl ?_); refine goesL_ (some 148) rfl rfl Try.func21 (by kernel_rfl) rfl #[.int .i64 t270, .int .i64 t271] rfl (by (try simp only [List.map_toArray, List.map_cons, List.map_nil]); first | done | rfl | (simp only [List.length_drop, List.length_take]; rfl)) ?_; (with_reducible refine (impl_MulIn.calls kj35 t270 t271 t289 true _ A39.out).mono ?_); rintro e w' ⟨rfl, ⟨nd, rfl⟩⟩; refine ⟨_, rfl, ?_⟩) | ((with_reducible refine gate_callee (f := 20) rfl ?_); refine goesL_ (some 154) rfl rfl Try.func20 (by kernel_rfl) rfl #[.int .i64 t270, .int .i64 t271] rfl (by (try simp only [List.map_toArray, List.map_cons, List.map_nil]); first | done | rfl | (simp only [List.length_drop, List.length_take]; rfl)) ?_; (with_reducible refine (spec_MulIn.calls kj35 t270 t271 t291 t292 _ A40.out).mono ?_); rintro e w' ⟨rfl, ⟨nd, rfl⟩⟩; refine ⟨_, rfl, ?_⟩))
                                  go_ret
                                  exact ⟨by first | rfl | (simp [errW_none, errW_some] <;> rfl) | (simp [*, errW_none, errW_some] <;> rfl), by repeat (first | (with_reducible first | exact HB.out | apply below_alloc | apply pw_below_drewN | apply below_drew1) | exact HB.out)⟩
                            · as_aux_lemma =>
                              replace c42 := Bool.eq_false_iff.mpr c42
                              subst c42
                              have H1 : (some true) = some r := by rw [if_neg (show ¬ (false = true) by decide)] at H; exact H
                              clear H
                              have H := H1
                              clear H1
                              obtain rfl := Option.some.inj H
                              go_wp2_with (first | ((with_reducible refine gate_callee (f := 21) rfl ?_); refine goesL_ (some 148) rfl rfl Try.func21 (by kernel_rfl) rfl #[.int .i64 t270, .int .i64 t271] rfl (by (try simp only [List.map_toArray, List.map_cons, List.map_nil]); first | done | rfl | (simp only [List.length_drop, List.length_take]; rfl)) ?_; (with_reducible refine (impl_MulIn.calls kj35 t270 t271 t289 false _ A39.out).mono ?_); rintro e w' ⟨rfl, ⟨nd, rfl⟩⟩; refine ⟨_, rfl, ?_⟩) | ((with_reducible refine gate_callee (f := 20) rfl ?_); refine goesL_ (some 154) rfl rfl Try.func20 (by kernel_rfl) rfl #[.int .i64 t270, .int .i64 t271] rfl (by (try simp only [List.map_toArray, List.map_cons, List.map_nil]); first | done | rfl | (simp only [List.length_drop, List.length_take]; rfl)) ?_; (with_reducible refine (spec_MulIn.calls kj35 t270 t271 t291 t292 _ A40.out).mono ?_); rintro e w' ⟨rfl, ⟨nd, rfl⟩⟩; refine ⟨_, rfl, ?_⟩))
                              go_ret
                              exact ⟨by first | rfl | (simp [errW_none, errW_some] <;> rfl) | (simp [*, errW_none, errW_some] <;> rfl), by repeat (first | (with_reducible first | exact HB.out | apply below_alloc | apply pw_below_drewN | apply below_drew1) | exact HB.out)⟩
                          · as_aux_lemma =>
                            rw [if_neg c41] at H
                            have c41b0 : (t290 == t292) = false := by simpa using c41
                            (try (have c41b1 : decide (t290 = t292) = false := by simpa using c41))
                            (try (have c41b2 : (t290 == t292) = false := by simpa using c41))
                            (try (have c41b3 : ¬ (t290 = t292) := by simpa using c41))
                            clear c41
                            obtain rfl := Option.some.inj H
                            go_wp2_with (first | ((with_reducible refine gate_callee (f := 21) rfl ?_); refine goesL_ (some 148) rfl rfl Try.func21 (by kernel_rfl) rfl #[.int .i64 t270, .int .i64 t271] rfl (by (try simp only [List.map_toArray, List.map_cons, List.map_nil]); first | done | rfl | (simp only [List.length_drop, List.length_take]; rfl)) ?_; (with_reducible refine (impl_MulIn.calls kj35 t270 t271 t289 t290 _ A39.out).mono ?_); rintro e w' ⟨rfl, ⟨nd, rfl⟩⟩; refine ⟨_, rfl, ?_⟩) | ((with_reducible refine gate_callee (f := 20) rfl ?_); refine goesL_ (some 154) rfl rfl Try.func20 (by kernel_rfl) rfl #[.int .i64 t270, .int .i64 t271] rfl (by (try simp only [List.map_toArray, List.map_cons, List.map_nil]); first | done | rfl | (simp only [List.length_drop, List.length_take]; rfl)) ?_; (with_reducible refine (spec_MulIn.calls kj35 t270 t271 t291 t292 _ A40.out).mono ?_); rintro e w' ⟨rfl, ⟨nd, rfl⟩⟩; refine ⟨_, rfl, ?_⟩))
                            go_ret
                            exact ⟨by first | rfl | (simp [errW_none, errW_some] <;> rfl) | (simp [*, errW_none, errW_some] <;> rfl), by repeat (first | (with_reducible first | exact HB.out | apply below_alloc | apply pw_below_drewN | apply below_drew1) | exact HB.out)⟩
                  · as_aux_lemma =>
                    replace c34 := Bool.eq_false_iff.mpr c34
                    subst c34
                    have H1 : ((impl_MulIn.f kj26 t270 t271).bind fun bt293 => ((spec_MulIn.f kj26 t270 t271).bind fun bt295 => (if (bt293.2 == bt295.2) = true then (if bt293.2 = true then (if t270 = 0 then (if bt293.1 = 0 then (some true) else (some false)) else (if (wrap64 (Int.tdiv bt293.1 t270)) = t271 then (some ((Int.tmod bt293.1 t270) == 0)) else (some false))) else (some true)) else (some false)))) = some r := by rw [if_neg (show ¬ (false = true) by decide)] at H; exact H
                    clear H
                    have H := H1
                    clear H1
                    replace H := Option.bind_eq_some_iff.mp H
                    obtain ⟨⟨t293, t294⟩, A460, H⟩ := H
                    replace H : ((spec_MulIn.f kj26 t270 t271).bind fun bt295 => (if (t294 == bt295.2) = true then (if t294 = true then (if t270 = 0 then (if t293 = 0 then (some true) else (some false)) else (if (wrap64 (Int.tdiv t293 t270)) = t271 then (some ((Int.tmod t293 t270) == 0)) else (some false))) else (some true)) else (some false))) = some r := H
                    have A46 := Aside0.mk A460
                    clear A460
                    replace H := Option.bind_eq_some_iff.mp H
                    obtain ⟨⟨t295, t296⟩, A470, H⟩ := H
                    replace H : (if (t294 == t296) = true then (if t294 = true then (if t270 = 0 then (if t293 = 0 then (some true) else (some false)) else (if (wrap64 (Int.tdiv t293 t270)) = t271 then (some ((Int.tmod t293 t270) == 0)) else (some false))) else (some true)) else (some false)) = some r := H
                    have A47 := Aside0.mk A470
                    clear A470
                    by_cases c48 : (t294 == t296) = true
                    · as_aux_lemma =>
                      rw [if_pos c48] at H
                      have c48b0 : (t294 == t296) = true := c48
                      (try (have c48b1 : decide (t294 = t296) = true := by simpa using c48))
                      (try (have c48b2 : (t294 == t296) = true := by simpa using c48))
                      clear c48
                      by_cases c49 : t294 = true
                      · as_aux_lemma =>
                        subst c49
                        have H1 : (if t270 = 0 then (if t293 = 0 then (some true) else (some false)) else (if (wrap64 (Int.tdiv t293 t270)) = t271 then (some ((Int.tmod t293 t270) == 0)) else (some false))) = some r := by rw [if_pos rfl] at H; exact H
                        clear H
                        have H := H1
                        clear H1
                        by_cases c50 : t270 = 0
                        · as_aux_lemma =>
                          rw [if_pos c50] at H
                          have c50b0 : (t270 == 0) = true := beq_iff_eq.mpr c50
                          have c50b1 : (t270 != 0) = false := bne_eq_false_iff_eq.mpr c50
                          clear c50
                          by_cases c51 : t293 = 0
                          · as_aux_lemma =>
                            rw [if_pos c51] at H
                            have c51b0 : (t293 == 0) = true := beq_iff_eq.mpr c51
                            have c51b1 : (t293 != 0) = false := bne_eq_false_iff_eq.mpr c51
                            clear c51
                            obtain rfl := Option.some.inj H
                            go_wp2_with (first | ((with_reducible refine gate_callee (f := 21) rfl ?_); refine goesL_ (some 148) rfl rfl Try.func21 (by kernel_rfl) rfl #[.int .i64 t270, .int .i64 t271] rfl (by (try simp only [List.map_toArray, List.map_cons, List.map_nil]); first | done | rfl | (simp only [List.length_drop, List.length_take]; rfl)) ?_; (with_reducible refine (impl_MulIn.calls kj26 t270 t271 t293 true _ A46.out).mono ?_); rintro e w' ⟨rfl, ⟨nd, rfl⟩⟩; refine ⟨_, rfl, ?_⟩) | ((with_reducible refine gate_callee (f := 20) rfl ?_); refine goesL_ (some 154) rfl rfl Try.func20 (by kernel_rfl) rfl #[.int .i64 t270, .int .i64 t271] rfl (by (try simp only [List.map_toArray, List.map_cons, List.map_nil]); first | done | rfl | (simp only [List.length_drop, List.length_take]; rfl)) ?_; (with_reducible refine (spec_MulIn.calls kj26 t270 t271 t295 t296 _ A47.out).mono ?_); rintro e w' ⟨rfl, ⟨nd, rfl⟩⟩; refine ⟨_, rfl, ?_⟩))
                            go_ret
                            exact ⟨by first | rfl | (simp [errW_none, errW_some] <;> rfl) | (simp [*, errW_none, errW_some] <;> rfl), by repeat (first | (with_reducible first | exact HB.out | apply below_alloc | apply pw_below_drewN | apply below_drew1) | exact HB.out)⟩
                          · as_aux_lemma =>
                            rw [if_neg c51] at H
                            have c51b0 : (t293 == 0) = false := beq_eq_false_iff_ne.mpr c51
                            have c51b1 : (t293 != 0) = true := bne_iff_ne.mpr c51
                            obtain rfl := Option.some.inj H
                            go_wp2_with (first | ((with_reducible refine gate_callee (f := 21) rfl ?_); refine goesL_ (some 148) rfl rfl Try.func21 (by kernel_rfl) rfl #[.int .i64 t270, .int .i64 t271] rfl (by (try simp only [List.map_toArray, List.map_cons, List.map_nil]); first | done | rfl | (simp only [List.length_drop, List.length_take]; rfl)) ?_; (with_reducible refine (impl_MulIn.calls kj26 t270 t271 t293 true _ A46.out).mono ?_); rintro e w' ⟨rfl, ⟨nd, rfl⟩⟩; refine ⟨_, rfl, ?_⟩) | ((with_reducible refine gate_callee (f := 20) rfl ?_); refine goesL_ (some 154) rfl rfl Try.func20 (by kernel_rfl) rfl #[.int .i64 t270, .int .i64 t271] rfl (by (try simp only [List.map_toArray, List.map_cons, List.map_nil]); first | done | rfl | (simp only [List.length_drop, List.length_take]; rfl)) ?_; (with_reducible refine (spec_MulIn.calls kj26 t270 t271 t295 t296 _ A47.out).mono ?_); rintro e w' ⟨rfl, ⟨nd, rfl⟩⟩; refine ⟨_, rfl, ?_⟩))
                            go_ret
                            exact ⟨by first | rfl | (simp [errW_none, errW_some] <;> rfl) | (simp [*, errW_none, errW_some] <;> rfl), by repeat (first | (with_reducible first | exact HB.out | apply below_alloc | apply pw_below_drewN | apply below_drew1) | exact HB.out)⟩
                        · as_aux_lemma =>
                          rw [if_neg c50] at H
                          have c50b0 : (t270 == 0) = false := beq_eq_false_iff_ne.mpr c50
                          have c50b1 : (t270 != 0) = true := bne_iff_ne.mpr c50
                          by_cases c52 : (wrap64 (Int.tdiv t293 t270)) = t271
                          · as_aux_lemma =>
                            rw [if_pos c52] at H
                            have c52b0 : ((wrap64 (Int.tdiv t293 t270)) == t271) = true := beq_iff_eq.mpr c52
                            have c52b1 : ((wrap64 (Int.tdiv t293 t270)) != t271) = false := bne_eq_false_iff_eq.mpr c52
                            clear c52
                            obtain rfl := Option.some.inj H
                            go_wp2_with (first | ((with_reducible refine gate_callee (f := 21) rfl ?_); refine goesL_ (some 148) rfl rfl Try.func21 (by kernel_rfl) rfl #[.int .i64 t270, .int .i64 t271] rfl (by (try simp only [List.map_toArray, List.map_cons, List.map_nil]); first | done | rfl | (simp only [List.length_drop, List.length_take]; rfl)) ?_; (with_reducible refine (impl_MulIn.calls kj26 t270 t271 t293 true _ A46.out).mono ?_); rintro e w' ⟨rfl, ⟨nd, rfl⟩⟩; refine ⟨_, rfl, ?_⟩) | ((with_reducible refine gate_callee (f := 20) rfl ?_); refine goesL_ (some 154) rfl rfl Try.func20 (by kernel_rfl) rfl #[.int .i64 t270, .int .i64 t271] rfl (by (try simp only [List.map_toArray, List.map_cons, List.map_nil]); first | done | rfl | (simp only [List.length_drop, List.length_take]; rfl)) ?_; (with_reducible refine (spec_MulIn.calls kj26 t270 t271 t295 t296 _ A47.out).mono ?_); rintro e w' ⟨rfl, ⟨nd, rfl⟩⟩; refine ⟨_, rfl, ?_⟩))
                            go_ret
                            exact ⟨by first | rfl | (simp [errW_none, errW_some] <;> rfl) | (simp [*, errW_none, errW_some] <;> rfl), by repeat (first | (with_reducible first | exact HB.out | apply below_alloc | apply pw_below_drewN | apply below_drew1) | exact HB.out)⟩
                          · as_aux_lemma =>
                            rw [if_neg c52] at H
                            have c52b0 : ((wrap64 (Int.tdiv t293 t270)) == t271) = false := beq_eq_false_iff_ne.mpr c52
                            have c52b1 : ((wrap64 (Int.tdiv t293 t270)) != t271) = true := bne_iff_ne.mpr c52
                            obtain rfl := Option.some.inj H
                            go_wp2_with (first | ((with_reducible refine gate_callee (f := 21) rfl ?_); refine goesL_ (some 148) rfl rfl Try.func21 (by kernel_rfl) rfl #[.int .i64 t270, .int .i64 t271] rfl (by (try simp only [List.map_toArray, List.map_cons, List.map_nil]); first | done | rfl | (simp only [List.length_drop, List.length_take]; rfl)) ?_; (with_reducible refine (impl_MulIn.calls kj26 t270 t271 t293 true _ A46.out).mono ?_); rintro e w' ⟨rfl, ⟨nd, rfl⟩⟩; refine ⟨_, rfl, ?_⟩) | ((with_reducible refine gate_callee (f := 20) rfl ?_); refine goesL_ (some 154) rfl rfl Try.func20 (by kernel_rfl) rfl #[.int .i64 t270, .int .i64 t271] rfl (by (try simp only [List.map_toArray, List.map_cons, List.map_nil]); first | done | rfl | (simp only [List.length_drop, List.length_take]; rfl)) ?_; (with_reducible refine (spec_MulIn.calls kj26 t270 t271 t295 t296 _ A47.out).mono ?_); rintro e w' ⟨rfl, ⟨nd, rfl⟩⟩; refine ⟨_, rfl, ?_⟩))
                            go_ret
                            exact ⟨by first | rfl | (simp [errW_none, errW_some] <;> rfl) | (simp [*, errW_none, errW_some] <;> rfl), by repeat (first | (with_reducible first | exact HB.out | apply below_alloc | apply pw_below_drewN | apply below_drew1) | exact HB.out)⟩
                      · as_aux_lemma =>
                        replace c49 := Bool.eq_false_iff.mpr c49
                        subst c49
                        have H1 : (some true) = some r := by rw [if_neg (show ¬ (false = true) by decide)] at H; exact H
                        clear H
                        have H := H1
                        clear H1
                        obtain rfl := Option.some.inj H
                        go_wp2_with (first | ((with_reducible refine gate_callee (f := 21) rfl ?_); refine goesL_ (some 148) rfl rfl Try.func21 (by kernel_rfl) rfl #[.int .i64 t270, .int .i64 t271] rfl (by (try simp only [List.map_toArray, List.map_cons, List.map_nil]); first | done | rfl | (simp only [List.length_drop, List.length_take]; rfl)) ?_; (with_reducible refine (impl_MulIn.calls kj26 t270 t271 t293 false _ A46.out).mono ?_); rintro e w' ⟨rfl, ⟨nd, rfl⟩⟩; refine ⟨_, rfl, ?_⟩) | ((with_reducible refine gate_callee (f := 20) rfl ?_); refine goesL_ (some 154) rfl rfl Try.func20 (by kernel_rfl) rfl #[.int .i64 t270, .int .i64 t271] rfl (by (try simp only [List.map_toArray, List.map_cons, List.map_nil]); first | done | rfl | (simp only [List.length_drop, List.length_take]; rfl)) ?_; (with_reducible refine (spec_MulIn.calls kj26 t270 t271 t295 t296 _ A47.out).mono ?_); rintro e w' ⟨rfl, ⟨nd, rfl⟩⟩; refine ⟨_, rfl, ?_⟩))
                        go_ret
                        exact ⟨by first | rfl | (simp [errW_none, errW_some] <;> rfl) | (simp [*, errW_none, errW_some] <;> rfl), by repeat (first | (with_reducible first | exact HB.out | apply below_alloc | apply pw_below_drewN | apply below_drew1) | exact HB.out)⟩
                    · as_aux_lemma =>
                      rw [if_neg c48] at H
                      have c48b0 : (t294 == t296) = false := by simpa using c48
                      (try (have c48b1 : decide (t294 = t296) = false := by simpa using c48))
                      (try (have c48b2 : (t294 == t296) = false := by simpa using c48))
                      (try (have c48b3 : ¬ (t294 = t296) := by simpa using c48))
                      clear c48
                      obtain rfl := Option.some.inj H
                      go_wp2_with (first | ((with_reducible refine gate_callee (f := 21) rfl ?_); refine goesL_ (some 148) rfl rfl Try.func21 (by kernel_rfl) rfl #[.int .i64 t270, .int .i64 t271] rfl (by (try simp only [List.map_toArray, List.map_cons, List.map_nil]); first | done | rfl | (simp only [List.length_drop, List.length_take]; rfl)) ?_; (with_reducible refine (impl_MulIn.calls kj26 t270 t271 t293 t294 _ A46.out).mono ?_); rintro e w' ⟨rfl, ⟨nd, rfl⟩⟩; refine ⟨_, rfl, ?_⟩) | ((with_reducible refine gate_callee (f := 20) rfl ?_); refine goesL_ (some 154) rfl rfl Try.func20 (by kernel_rfl) rfl #[.int .i64 t270, .int .i64 t271] rfl (by (try simp only [List.map_toArray, List.map_cons, List.map_nil]); first | done | rfl | (simp only [List.length_drop, List.length_take]; rfl)) ?_; (with_reducible refine (spec_MulIn.calls kj26 t270 t271 t295 t296 _ A47.out).mono ?_); rintro e w' ⟨rfl, ⟨nd, rfl⟩⟩; refine ⟨_, rfl, ?_⟩))
                      go_ret
                      exact ⟨by first | rfl | (simp [errW_none, errW_some] <;> rfl) | (simp [*, errW_none, errW_some] <;> rfl), by repeat (first | (with_reducible first | exact HB.out | apply below_alloc | apply pw_below_drewN | apply below_drew1) | exact HB.out)⟩

/-- THE ONE PURE STATEMENT of laws_FnFloors: yours. -/
def laws_FnFloors.Pure : Prop := ∀ (l0 : List Int), l0.length ≤ maxLen → l0.length * 1 ≤ 140737488351232 → (∀ x ∈ l0, (Lit.int .u8 x).wf = true) → ∃ k, laws_FnFloors.f k l0 = some true
theorem laws_FnFloors.walk (P : laws_FnFloors.Pure) (a0 : Option Addr) (len0 cap0 : Nat) (z0 : List Int) (w : World) (w0 : (a0 = none ∧ len0 = 0 ∧ cap0 = 0 ∧ z0 = []) ∨ ∃ x, a0 = some x ∧ len0 ≤ cap0 ∧ cap0 ≤ maxLen ∧ z0.length = cap0 ∧ (∀ i, i < z0.length → w.cell? (x.add i) = some (.int .u8 (z0.getD i 0))) ∧ ∀ n ∈ z0, (Lit.int .u8 n).wf = true) (y0 : len0 * 1 ≤ 140737488351232) :
    Calls Try.prog 11 #[.slice a0 len0 cap0] w fun e w' => e = .returned (.bool true) ∧ Below w.heap.size w w' := by
  obtain ⟨l0, rfl, hr0, hm0, hw0, hc0⟩ := ReadsInt.ofRowC w0
  obtain ⟨k, h⟩ := P l0 hm0 y0 hw0
  refine (laws_FnFloors.calls k _ _ l0 true w (Kd.C_of_reads (d := (0 : Int)) (h1 := fun _ => rfl) hr0) hc0 h).mono ?_
  rintro e w' ⟨rfl, hd⟩
  exact ⟨rfl, hd⟩

end Go.Proofs.Ytbgnbbbhjpngiaa.P
