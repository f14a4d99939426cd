/- AccountPut of the program and of the reference agree at every list and account, and what is told is the caller's own; no condition but that they are of ints. -/
import Derived.Test.YtnfoldoeligfhaaZFnExactAccountPut3
import Derived.RowKit
import Derived.IntWalk
import Derived.Deep.Slices
import Derived.Deep.Fields
import Derived.ChangeSame
import Derived.ChangeShapes
import Derived.WideShapes
import Derived.SizedLaws
import Derived.Test.YtnfoldoeligfhaaRows
import Derived.WalkKit
import Derived.ProofKit
import Derived.OpenShut
import Derived.ShutString
import Derived.ChangeOld
import Derived.Below
import Derived.Carry
namespace Go.Proofs.Ytnfoldoeligfhaa.P
open Go.RowKit Go.Proofs.YtnfoldoeligfhaaW.PrintWords Go.Proofs.YtnfoldoeligfhaaW.PrintLast Go.Proofs.YtnfoldoeligfhaaW.PrintMore
attribute [local go_sem] max2_int min2_int max_two min_two max_three min_three max_four min_four   -- for this text's walks alone
set_option linter.unusedVariables false
set_option linter.unusedSimpArgs false
mutual
def laws_FnExactAccountPut.j0 : Nat → List (S41) → List (S44) → Bool → List (S44) → List (S44) → Bool → Bool → Int → Int → Option (Bool)
  | 0, _, _, _, _, _, _, _, _, _ => none
  | k + 1, x0, x6, x7, x8, x9, x10, x46, x289000, x289001 => if x46 = true then (none) else ((laws_toAccountS.f k x0).bind fun t309 => ((laws_eqAccountS.f k x8 t309).bind fun t312 => (if t312 = true then ((laws_markAccountS.f k x8 1).bind fun bt313 => (if bt313.1 < 0 then (laws_FnExactAccountPut.j1 k x0 x6 x7 x9 true x289000 x289001) else ((laws_eqAccountS.f k x9 x6).bind fun t315 => (if t315 = true then (laws_FnExactAccountPut.j1 k x0 x6 x7 x9 (x10 != x7) x289000 x289001) else (laws_FnExactAccountPut.j1 k x0 x6 x7 x9 true x289000 x289001))))) else (none))))
def laws_FnExactAccountPut.j1 : Nat → List (S41) → List (S44) → Bool → List (S44) → Bool → Int → Int → Option (Bool)
  | 0, _, _, _, _, _, _, _ => none
  | k + 1, x0, x6, x7, x9, x67, x289000, x289001 => if x67 = true then (none) else ((laws_markAccountS.f k x9 1).bind fun bt316 => ((laws_heldAccountS.f k bt316.2 1).bind fun t318 => (if t318 < 0 then (none) else (if t318 = bt316.1 then ((laws_toAccountS.f k x0).bind fun t319 => ((laws_toAccount.f x289000 x289001).bind fun bt322 => ((impl_AccountPut.f k t319 bt322.1 bt322.2).bind fun bt324 => ((laws_eqAccountS.f k bt324.1 x6).bind fun t328 => (if t328 = true then (laws_FnExactAccountPut.j2 k bt316.2 bt316.1 (bt324.2 != x7)) else (laws_FnExactAccountPut.j2 k bt316.2 bt316.1 true)))))) else (none)))))
def laws_FnExactAccountPut.j2 : Nat → List (S44) → Int → Bool → Option (Bool)
  | 0, _, _, _ => none
  | k + 1, x9, x12, x95 => if x95 = true then (none) else ((laws_heldAccountS.f k x9 1).bind fun t329 => (if t329 < 0 then (none) else (if t329 = x12 then (some true) else (none))))
end
def laws_FnExactAccountPut.f (k : Nat) (l0 : List (S41)) (a1_0 : Int) (a1_1 : Int) : Option (Bool) := (laws_szAccountS.f l0 1048576).bind fun t289 => (if t289 < 0 then (some true) else ((laws_toAccountS.f k l0).bind fun t290 => ((laws_toAccount.f a1_0 a1_1).bind fun bt293 => ((spec_AccountPut.f k t290 bt293.1 bt293.2).bind fun bt295 => ((laws_toAccountS.f k l0).bind fun t299 => ((laws_toAccount.f a1_0 a1_1).bind fun bt302 => ((impl_AccountPut.f k t299 bt302.1 bt302.2).bind fun bt304 => ((laws_eqAccountS.f k bt304.1 bt295.1).bind fun t308 => (if t308 = true then (laws_FnExactAccountPut.j0 k l0 bt295.1 bt295.2 t299 bt304.1 bt304.2 (bt304.2 != bt295.2) a1_0 a1_1) else (laws_FnExactAccountPut.j0 k l0 bt295.1 bt295.2 t299 bt304.1 bt304.2 true a1_0 a1_1))))))))))
def laws_FnExactAccountPut.T5 : Bool × List (List Nat × List Nat) := (true, [([], []), ([0], [0]), ([], []), ([2, 1], [2]), ([1, 3, 3], [1, 3]), ([4], [4]), ([5], [5]), ([5], [5]), ([6, 4, 0, 1, 2, 3, 4, 5, 6], [6]), ([7, 8, 0, 1, 2, 3, 4, 5, 6, 7, 8], [7])])
def laws_FnExactAccountPut.B5 : List Nat := [0, 1, 0, 7, 15, 31, 63, 63, 127, 511]
theorem laws_FnExactAccountPut.tab5 : rtab .any (opsOf Try.f7 5) = laws_FnExactAccountPut.T5 := by kernel_rfl
theorem laws_FnExactAccountPut.bits5 : waitsOk laws_FnExactAccountPut.T5.2 laws_FnExactAccountPut.B5 = true := by kernel_rfl
def laws_FnExactAccountPut.T24 : Bool × List (List Nat × List Nat) := (true, [([], []), ([0], [0]), ([], []), ([2, 1], [2]), ([1, 3, 3], [1, 3]), ([4], [4]), ([5], [5]), ([5], [5]), ([6, 4, 0, 1, 2, 3, 4, 5, 6], [6]), ([7, 8, 0, 1, 2, 3, 4, 5, 6, 7, 8], [7])])
def laws_FnExactAccountPut.B24 : List Nat := [0, 1, 0, 7, 15, 31, 63, 63, 127, 511]
theorem laws_FnExactAccountPut.tab24 : rtab .any (opsOf Try.f7 24) = laws_FnExactAccountPut.T24 := by kernel_rfl
theorem laws_FnExactAccountPut.bits24 : waitsOk laws_FnExactAccountPut.T24.2 laws_FnExactAccountPut.B24 = true := by kernel_rfl
set_option maxHeartbeats 8000000 in
set_option maxRecDepth 100000 in
theorem laws_FnExactAccountPut.calls (k : Nat) (A0 : Option Addr) (c0 : Nat) (l0 : List (S41)) (a1_0 : Int) (a1_1 : Int) (r : Bool) (w : World) (hr0 : Kd.C k41 w A0 l0.length l0) (hc0 : l0.length ≤ c0) (h : laws_FnExactAccountPut.f k l0 a1_0 a1_1 = some r) :
    Calls Try.prog 7 #[.slice A0 l0.length c0, .agg #[.int .i64 a1_0, .int .i64 a1_1]] w fun e w' => e = .returned (.bool r) ∧ Below w.heap.size w w' := by
  have hu41 := Try.underlying41
  have HR0 := Aside0.mk hr0
  have HC0 := Aside0.mk hc0
  clear hr0 hc0
  have HB := Aside0.mk (Below.refl w.heap.size w)
  have H : ((laws_szAccountS.f l0 1048576).bind fun t289 => (if t289 < 0 then (some true) else ((laws_toAccountS.f k l0).bind fun t290 => ((laws_toAccount.f a1_0 a1_1).bind fun bt293 => ((spec_AccountPut.f k t290 bt293.1 bt293.2).bind fun bt295 => ((laws_toAccountS.f k l0).bind fun t299 => ((laws_toAccount.f a1_0 a1_1).bind fun bt302 => ((impl_AccountPut.f k t299 bt302.1 bt302.2).bind fun bt304 => ((laws_eqAccountS.f k bt304.1 bt295.1).bind fun t308 => (if t308 = true then (laws_FnExactAccountPut.j0 k l0 bt295.1 bt295.2 t299 bt304.1 bt304.2 (bt304.2 != bt295.2) a1_0 a1_1) else (laws_FnExactAccountPut.j0 k l0 bt295.1 bt295.2 t299 bt304.1 bt304.2 true a1_0 a1_1))))))))))) = some r := h
  clear h
  replace H := Option.bind_eq_some_iff.mp H
  obtain ⟨t289, A30, H⟩ := H
  replace H : (if t289 < 0 then (some true) else ((laws_toAccountS.f k l0).bind fun t290 => ((laws_toAccount.f a1_0 a1_1).bind fun bt293 => ((spec_AccountPut.f k t290 bt293.1 bt293.2).bind fun bt295 => ((laws_toAccountS.f k l0).bind fun t299 => ((laws_toAccount.f a1_0 a1_1).bind fun bt302 => ((impl_AccountPut.f k t299 bt302.1 bt302.2).bind fun bt304 => ((laws_eqAccountS.f k bt304.1 bt295.1).bind fun t308 => (if t308 = true then (laws_FnExactAccountPut.j0 k l0 bt295.1 bt295.2 t299 bt304.1 bt304.2 (bt304.2 != bt295.2) a1_0 a1_1) else (laws_FnExactAccountPut.j0 k l0 bt295.1 bt295.2 t299 bt304.1 bt304.2 true a1_0 a1_1)))))))))) = some r := H
  have A3 := Aside0.mk A30
  clear A30
  by_cases c4 : t289 < 0
  · as_aux_lemma =>
    rw [if_pos c4] at H
    have c4b0 : decide (t289 < 0) = true := decide_eq_true c4
    clear c4
    obtain rfl := Option.some.inj H
    go_enter Try.func7, Try.ntmps7
    go_wp2_with (first | ((with_reducible refine gate_dst (N := 3) rfl ?_); refine box_event ?hg (N := 3) ?hd (cs := #[.int .i64 a1_0, .int .i64 a1_1]) (t := 41) ?hr ?_; (case hd => rfl); (case hg => rfl); (case hr => first | (go_simp; done) | (go_simp; rfl)); intro gb288 hg w5 hbox hb; have n0_ := Aside0.mk (below_step (by repeat (first | (with_reducible first | exact HB.out | apply below_alloc | apply pw_below_drewN | apply below_drew1) | exact HB.out)) hb); have n1_ := Aside0.mk (hbox); have n2_ := Aside0.mk ((by rw [hg]; exact (below_size (by repeat (first | (with_reducible first | exact HB.out | apply below_alloc | apply pw_below_drewN | apply below_drew1) | exact HB.out))) : w.heap.size ≤ gb288)); have n3_ := Aside0.mk ((by rw [hg]; exact (below_size (by repeat (first | (with_reducible first | exact HB.out | apply below_alloc | apply pw_below_drewN | apply below_drew1) | exact HB.out))) : w.heap.size ≤ gb288)); clear HB; have HB := n0_; have BK288 := n1_; have GW288 := n2_; have GE288 := n3_; clear n0_ n1_ n2_ n3_; clear hb hbox hg) | ((with_reducible refine gate_callee (f := 10) rfl ?_); refine goesL_ (some 18) rfl rfl Try.func10 (by kernel_rfl) rfl #[.slice A0 l0.length c0, .int .i64 1048576] rfl (by (try simp only [List.map_toArray, List.map_cons, List.map_nil]); first | done | rfl | (simp only [List.length_drop, List.length_take]; rfl)) ?_; (with_reducible refine (laws_szAccountS.calls _ _ l0 1048576 t289 _ ?side1 ?side2 A3.out).mono ?_); (case side1 => repeat (first | exact (Kd.C_below HR0.out HB.out) | (with_reducible refine Kd.C_alloc ?_ _) | (with_reducible refine Kd.C_drewN ?_ _) | (with_reducible refine Kd.C_drew ?_))); (case side2 => exact HC0.out); rintro e w' ⟨rfl, ⟨nd, rfl⟩⟩; refine ⟨_, rfl, ?_⟩))
    go_ret
    exact ⟨by first | rfl | (simp [errW_none, errW_some] <;> rfl) | (simp [*, errW_none, errW_some] <;> rfl), by repeat (first | (with_reducible first | exact HB.out | apply below_alloc | apply pw_below_drewN | apply below_drew1 | refine below_set ?_ GE288.out) | exact HB.out)⟩
  · as_aux_lemma =>
    rw [if_neg c4] at H
    have c4b0 : decide (t289 < 0) = false := decide_eq_false c4
    clear c4
    replace H := Option.bind_eq_some_iff.mp H
    obtain ⟨t290, A60, H⟩ := H
    replace H : ((laws_toAccount.f a1_0 a1_1).bind fun bt293 => ((spec_AccountPut.f k t290 bt293.1 bt293.2).bind fun bt295 => ((laws_toAccountS.f k l0).bind fun t299 => ((laws_toAccount.f a1_0 a1_1).bind fun bt302 => ((impl_AccountPut.f k t299 bt302.1 bt302.2).bind fun bt304 => ((laws_eqAccountS.f k bt304.1 bt295.1).bind fun t308 => (if t308 = true then (laws_FnExactAccountPut.j0 k l0 bt295.1 bt295.2 t299 bt304.1 bt304.2 (bt304.2 != bt295.2) a1_0 a1_1) else (laws_FnExactAccountPut.j0 k l0 bt295.1 bt295.2 t299 bt304.1 bt304.2 true a1_0 a1_1)))))))) = some r := H
    have A6 := Aside0.mk A60
    clear A60
    replace H := Option.bind_eq_some_iff.mp H
    obtain ⟨⟨t293, t294⟩, A70, H⟩ := H
    replace H : ((spec_AccountPut.f k t290 t293 t294).bind fun bt295 => ((laws_toAccountS.f k l0).bind fun t299 => ((laws_toAccount.f a1_0 a1_1).bind fun bt302 => ((impl_AccountPut.f k t299 bt302.1 bt302.2).bind fun bt304 => ((laws_eqAccountS.f k bt304.1 bt295.1).bind fun t308 => (if t308 = true then (laws_FnExactAccountPut.j0 k l0 bt295.1 bt295.2 t299 bt304.1 bt304.2 (bt304.2 != bt295.2) a1_0 a1_1) else (laws_FnExactAccountPut.j0 k l0 bt295.1 bt295.2 t299 bt304.1 bt304.2 true a1_0 a1_1))))))) = some r := H
    have A7 := Aside0.mk A70
    clear A70
    replace H := Option.bind_eq_some_iff.mp H
    obtain ⟨⟨t295, t298⟩, A80, H⟩ := H
    replace H : ((laws_toAccountS.f k l0).bind fun t299 => ((laws_toAccount.f a1_0 a1_1).bind fun bt302 => ((impl_AccountPut.f k t299 bt302.1 bt302.2).bind fun bt304 => ((laws_eqAccountS.f k bt304.1 t295).bind fun t308 => (if t308 = true then (laws_FnExactAccountPut.j0 k l0 t295 t298 t299 bt304.1 bt304.2 (bt304.2 != t298) a1_0 a1_1) else (laws_FnExactAccountPut.j0 k l0 t295 t298 t299 bt304.1 bt304.2 true a1_0 a1_1)))))) = some r := H
    have A8 := Aside0.mk A80
    clear A80
    replace H := Option.bind_eq_some_iff.mp H
    obtain ⟨t299, A90, H⟩ := H
    replace H : ((laws_toAccount.f a1_0 a1_1).bind fun bt302 => ((impl_AccountPut.f k t299 bt302.1 bt302.2).bind fun bt304 => ((laws_eqAccountS.f k bt304.1 t295).bind fun t308 => (if t308 = true then (laws_FnExactAccountPut.j0 k l0 t295 t298 t299 bt304.1 bt304.2 (bt304.2 != t298) a1_0 a1_1) else (laws_FnExactAccountPut.j0 k l0 t295 t298 t299 bt304.1 bt304.2 true a1_0 a1_1))))) = some r := H
    have A9 := Aside0.mk A90
    clear A90
    replace H := Option.bind_eq_some_iff.mp H
    obtain ⟨⟨t302, t303⟩, A100, H⟩ := H
    replace H : ((impl_AccountPut.f k t299 t302 t303).bind fun bt304 => ((laws_eqAccountS.f k bt304.1 t295).bind fun t308 => (if t308 = true then (laws_FnExactAccountPut.j0 k l0 t295 t298 t299 bt304.1 bt304.2 (bt304.2 != t298) a1_0 a1_1) else (laws_FnExactAccountPut.j0 k l0 t295 t298 t299 bt304.1 bt304.2 true a1_0 a1_1)))) = some r := H
    have A10 := Aside0.mk A100
    clear A100
    replace H := Option.bind_eq_some_iff.mp H
    obtain ⟨⟨t304, t307⟩, A110, H⟩ := H
    replace H : ((laws_eqAccountS.f k t304 t295).bind fun t308 => (if t308 = true then (laws_FnExactAccountPut.j0 k l0 t295 t298 t299 t304 t307 (t307 != t298) a1_0 a1_1) else (laws_FnExactAccountPut.j0 k l0 t295 t298 t299 t304 t307 true a1_0 a1_1))) = some r := H
    have A11 := Aside0.mk A110
    clear A110
    have HC12 := Aside0.mk H
    clear H
    go_enter Try.func7, Try.ntmps7
    try go_wp2_with (first | ((with_reducible refine gate_dst (N := 3) rfl ?_); refine box_event ?hg (N := 3) ?hd (cs := #[.int .i64 a1_0, .int .i64 a1_1]) (t := 41) ?hr ?_; (case hd => rfl); (case hg => rfl); (case hr => first | (go_simp; done) | (go_simp; rfl)); intro gb288 hg w13 hbox hb; have n0_ := Aside0.mk (below_step (by repeat (first | (with_reducible first | exact HB.out | apply below_alloc | apply pw_below_drewN | apply below_drew1) | exact HB.out)) hb); have n1_ := Aside0.mk (hbox); have n2_ := Aside0.mk ((by rw [hg]; exact (below_size (by repeat (first | (with_reducible first | exact HB.out | apply below_alloc | apply pw_below_drewN | apply below_drew1) | exact HB.out))) : w.heap.size ≤ gb288)); have n3_ := Aside0.mk ((by rw [hg]; exact (below_size (by repeat (first | (with_reducible first | exact HB.out | apply below_alloc | apply pw_below_drewN | apply below_drew1) | exact HB.out))) : w.heap.size ≤ gb288)); clear HB; have HB := n0_; have BK288 := n1_; have GW288 := n2_; have GE288 := n3_; clear n0_ n1_ n2_ n3_; clear hb hbox hg) | ((with_reducible refine gate_callee (f := 10) rfl ?_); refine goesL_ (some 18) rfl rfl Try.func10 (by kernel_rfl) rfl #[.slice A0 l0.length c0, .int .i64 1048576] rfl (by (try simp only [List.map_toArray, List.map_cons, List.map_nil]); first | done | rfl | (simp only [List.length_drop, List.length_take]; rfl)) ?_; (with_reducible refine (laws_szAccountS.calls _ _ l0 1048576 t289 _ ?side1 ?side2 A3.out).mono ?_); (case side1 => repeat (first | exact (Kd.C_below HR0.out HB.out) | (with_reducible refine Kd.C_alloc ?_ _) | (with_reducible refine Kd.C_drewN ?_ _) | (with_reducible refine Kd.C_drew ?_))); (case side2 => exact HC0.out); rintro e w' ⟨rfl, ⟨nd, rfl⟩⟩; refine ⟨_, rfl, ?_⟩))
    (try (rw [drewN_self w13]; generalize hq_ : World.drewN w13 _ = w13; have n0_ : Aside0 (w13.heap[gb288]? = some (.cells #[.int .i64 a1_0, .int .i64 a1_1] 41 (0, 0))) := ⟨by rw [← hq_]; exact (by (with_reducible repeat (first | refine blk_drewN ?_ _ | refine blk_drew ?_ | refine blk_alloc ?_ _)); exact BK288.out)⟩; have n1_ : Aside0 (Below w.heap.size w w13) := ⟨by rw [← hq_]; exact (by repeat (first | (with_reducible first | exact HB.out | apply below_alloc | apply pw_below_drewN | apply below_drew1 | refine below_set ?_ GE288.out) | exact HB.out))⟩; clear BK288 HB hq_; have BK288 := n0_; have HB := n1_; clear n0_ n1_))
    have n0_ := Aside0.mk (blk_drew BK288.out)
    have n1_ := Aside0.mk (below_drew1 HB.out)
    clear BK288
    clear HB
    have BK288 := n0_
    have HB := n1_
    clear n0_ n1_
    refine start_ (n := 10) (S := fun w' => w'.cell? ⟨gb288, 0, none⟩ = some (.int .i64 a1_0) ∧ w'.cell? ⟨gb288, 1, none⟩ = some (.int .i64 a1_1)) (ds := []) #[false, false, false, false, false, false, false, false, false, false] (by kernel_rfl) rfl rfl ⟨(blk_cell BK288.out 0).trans rfl, (blk_cell BK288.out 1).trans rfl⟩ (fun hHeld => ?_); refine with_tabW laws_FnExactAccountPut.tab5 laws_FnExactAccountPut.bits5 (fun HT_ HW_ => ?_)
    generalize w13.drew = w14 at BK288 HB hHeld ⊢
    refine pure_ (i := 0) (N := some 22) (v := ?_) (a' := ?_) #[true, false, false, false, false, false, false, false, false, false] rfl rfl (any_of HT_.out (by kernel_rfl)) (fun _ _ _ h => h) (Or.inl ⟨by rfl, ?_⟩) ?_ ?_
    rotate_left
    · intro w'
      go_simp
      with_reducible rfl
    rotate_left
    · simp only [Act.put, List.setIfInBounds_toArray, List.set_cons_zero, List.set_cons_succ, i64_w, i32_w]
      rfl
    refine take_ (i := 2) (N := some 24) (v := ?_) (a' := ?_) #[true, false, true, false, false, false, false, false, false, false] rfl rfl (take_ofW HT_.out HW_.out (by kernel_rfl)) (fun _ _ _ h => h) (Or.inl ⟨by rfl, ?_⟩) hHeld ?_ ?_
    rotate_left
    · rintro w' ⟨s0, s1⟩
      go_simp
      with_reducible rfl
    rotate_left
    · simp only [Act.put, List.setIfInBounds_toArray, List.set_cons_zero, List.set_cons_succ, i64_w, i32_w]
      rfl
    refine one_ (i := 1) (N := some 23) #[true, true, true, false, false, false, false, false, false, false] rfl rfl (one_of HT_.out (by kernel_rfl)) (by decide) (fun K hK => ?_)
    refine goes_ Try.func12 (by kernel_rfl) rfl #[.slice A0 l0.length c0] (by rfl) rfl rfl (by (try simp only [List.map_toArray, List.map_cons, List.map_nil]); first | done | rfl | (simp only [List.length_drop, List.length_take]; rfl)) ?_
    with_reducible refine (laws_toAccountS.calls k _ _ l0 t290 _ ?side1 ?side2 A6.out).mono ?_
    (case side1 => repeat (first | exact (Kd.C_below HR0.out HB.out) | (with_reducible refine Kd.C_alloc ?_ _) | (with_reducible refine Kd.C_drewN ?_ _) | (with_reducible refine Kd.C_drew ?_)))
    (case side2 => exact HC0.out)
    rintro e w15 ⟨v291, rfl, ho0, hb⟩
    refine ⟨_, rfl, ?_⟩
    have n0_ := Aside0.mk (Kd.R_lower ho0 (below_size (by repeat (first | (with_reducible first | exact HB.out | apply below_alloc | apply pw_below_drewN | apply below_drew1 | refine below_set ?_ GE288.out) | exact HB.out))))
    have n1_ := Aside0.mk (blk_below (g := gb288) (o := .cells #[.int .i64 a1_0, .int .i64 a1_1] 41 (0, 0)) (by (with_reducible repeat (first | refine blk_drewN ?_ _ | refine blk_drew ?_ | refine blk_alloc ?_ _)); exact BK288.out) hb)
    have n2_ := Aside0.mk (below_step (by repeat (first | (with_reducible first | exact HB.out | apply below_alloc | apply pw_below_drewN | apply below_drew1 | refine below_set ?_ GE288.out) | exact HB.out)) hb)
    clear BK288
    clear HB
    have HO292 := n0_
    have BK288 := n1_
    have HB := n2_
    clear n0_ n1_ n2_
    (try clear hb)
    (try clear hb2)
    (try clear hk)
    (try clear hi)
    (try clear ho0)
    refine hK.out _ _ ⟨(blk_cell BK288.out 0).trans rfl, (blk_cell BK288.out 1).trans rfl⟩ (fun hHeld => ?_)
    clear hK K
    refine norm_ (a' := ?_) ?_ ?_
    rotate_left
    · show Act.put _ (some 23) _ = _
      simp only [Act.put, List.setIfInBounds_toArray, List.set_cons_zero, List.set_cons_succ, i64_w, i32_w]
      rfl
    refine one_ (i := 3) (N := some 25) #[true, true, true, true, false, false, false, false, false, false] rfl rfl (one_of HT_.out (by kernel_rfl)) (by decide) (fun K hK => ?_)
    refine goes_ Try.func25 (by kernel_rfl) rfl #[.agg #[.int .i64 a1_0, .int .i64 a1_1]] (by rfl) rfl rfl (by (try simp only [List.map_toArray, List.map_cons, List.map_nil]); first | done | rfl | (simp only [List.length_drop, List.length_take]; rfl)) ?_
    with_reducible refine (laws_toAccount.calls a1_0 a1_1 t293 t294 _ A7.out).mono ?_
    rintro e w16 ⟨rfl, hb⟩
    refine ⟨_, rfl, ?_⟩
    have n0_ := Aside0.mk (Kd.R_below (by (with_reducible repeat (first | apply Kd.R_alloc | apply Kd.R_drewN | apply Kd.R_drew)); exact HO292.out) hb)
    have n1_ := Aside0.mk (blk_below (g := gb288) (o := .cells #[.int .i64 a1_0, .int .i64 a1_1] 41 (0, 0)) (by (with_reducible repeat (first | refine blk_drewN ?_ _ | refine blk_drew ?_ | refine blk_alloc ?_ _)); exact BK288.out) hb)
    have n2_ := Aside0.mk (below_step (by repeat (first | (with_reducible first | exact HB.out | apply below_alloc | apply pw_below_drewN | apply below_drew1 | refine below_set ?_ GE288.out) | exact HB.out)) hb)
    clear HO292
    clear BK288
    clear HB
    have HO292 := n0_
    have BK288 := n1_
    have HB := n2_
    clear n0_ n1_ n2_
    (try clear hb)
    (try clear hb2)
    (try clear hk)
    (try clear hi)
    obtain ⟨Ao17, co17, eo17⟩ := Kd.R_slice HO292.out
    (first | subst eo17 | (injection eo17 with f1_ f2_ f3_; have f4_ := f1_.symm; have f5_ := f3_.symm; clear f1_ f2_ f3_; subst f4_; subst f5_))
    refine hK.out _ _ ⟨(blk_cell BK288.out 0).trans rfl, (blk_cell BK288.out 1).trans rfl⟩ (fun hHeld => ?_)
    clear hK K
    refine norm_ (a' := ?_) ?_ ?_
    rotate_left
    · show Act.put _ (some 25) _ = _
      simp only [Act.put, List.setIfInBounds_toArray, List.set_cons_zero, List.set_cons_succ, i64_w, i32_w]
      rfl
    refine one_ (i := 4) (N := some 26) #[true, true, true, true, true, false, false, false, false, false] rfl rfl (one_of HT_.out (by kernel_rfl)) (by decide) (fun K hK => ?_)
    refine goes_ Try.func24 (by kernel_rfl) rfl #[.slice Ao17 t290.length co17, .agg #[.int .i64 t293, .int .i64 t294]] (by rfl) rfl rfl (by (try simp only [List.map_toArray, List.map_cons, List.map_nil]); first | done | rfl | (simp only [List.length_drop, List.length_take]; rfl)) ?_
    with_reducible refine (spec_AccountPut.calls k _ _ t290 t293 t294 t295 t298 _ ?side1 ?side2 A8.out).mono ?_
    (case side1 => repeat (first | exact (Kd.R_reads' HO292.out).2.2 | (with_reducible refine Kd.C_alloc ?_ _) | (with_reducible refine Kd.C_drewN ?_ _) | (with_reducible refine Kd.C_drew ?_)))
    (case side2 => exact (Kd.R_reads' HO292.out).2.1)
    rintro e w18 ⟨v296, rfl, ho0, hb⟩
    refine ⟨_, rfl, ?_⟩
    have n0_ := Aside0.mk (Kd.R_elder' (by (with_reducible repeat (first | apply Kd.R_alloc | apply Kd.R_drewN | apply Kd.R_drew)); exact HO292.out) (Kd.R_base ho0) hb)
    have n1_ := Aside0.mk (Kd.R_lower (Kd.R_new' ho0 (Kd.R_lt (by (with_reducible repeat (first | apply Kd.R_alloc | apply Kd.R_drewN | apply Kd.R_drew)); exact HO292.out))) (below_size (by repeat (first | (with_reducible first | exact HB.out | apply below_alloc | apply pw_below_drewN | apply below_drew1 | refine below_set ?_ GE288.out) | exact HB.out))))
    have n2_ := Aside0.mk (blk_below (g := gb288) (o := .cells #[.int .i64 a1_0, .int .i64 a1_1] 41 (0, 0)) (by (with_reducible repeat (first | refine blk_drewN ?_ _ | refine blk_drew ?_ | refine blk_alloc ?_ _)); exact BK288.out) hb)
    have n3_ := Aside0.mk (below_step (by repeat (first | (with_reducible first | exact HB.out | apply below_alloc | apply pw_below_drewN | apply below_drew1 | refine below_set ?_ GE288.out) | exact HB.out)) hb)
    clear HO292
    clear BK288
    clear HB
    have HO292 := n0_
    have HO297 := n1_
    have BK288 := n2_
    have HB := n3_
    clear n0_ n1_ n2_ n3_
    (try clear hb)
    (try clear hb2)
    (try clear hk)
    (try clear hi)
    (try clear ho0)
    refine hK.out _ _ ⟨(blk_cell BK288.out 0).trans rfl, (blk_cell BK288.out 1).trans rfl⟩ (fun hHeld => ?_)
    clear hK K
    refine norm_ (a' := ?_) ?_ ?_
    rotate_left
    · show Act.put _ (some 26) _ = _
      simp only [Act.put, List.setIfInBounds_toArray, List.set_cons_zero, List.set_cons_succ, i64_w, i32_w]
      rfl
    refine pure_ (i := 5) (N := some 21) (v := ?_) (a' := ?_) #[true, true, true, true, true, true, false, false, false, false] rfl rfl (any_of HT_.out (by kernel_rfl)) (fun _ _ _ h => h) (Or.inl ⟨by rfl, ?_⟩) ?_ ?_
    rotate_left
    · intro w'
      go_simp
      with_reducible rfl
    rotate_left
    · simp only [Act.put, List.setIfInBounds_toArray, List.set_cons_zero, List.set_cons_succ, i64_w, i32_w]
      rfl
    refine pure_ (i := 6) (N := some 27) (v := ?_) (a' := ?_) #[true, true, true, true, true, true, true, false, false, false] rfl rfl (any_of HT_.out (by kernel_rfl)) (fun _ _ _ h => h) (Or.inl ⟨by rfl, ?_⟩) ?_ ?_
    rotate_left
    · intro w'
      go_simp
      with_reducible rfl
    rotate_left
    · simp only [Act.put, List.setIfInBounds_toArray, List.set_cons_zero, List.set_cons_succ, i64_w, i32_w]
      rfl
    refine pure_ (i := 7) (N := some 28) (v := ?_) (a' := ?_) #[true, true, true, true, true, true, true, true, false, false] rfl rfl (any_of HT_.out (by kernel_rfl)) (fun _ _ _ h => h) (Or.inl ⟨by rfl, ?_⟩) ?_ ?_
    rotate_left
    · intro w'
      go_simp
      with_reducible rfl
    rotate_left
    · simp only [Act.put, List.setIfInBounds_toArray, List.set_cons_zero, List.set_cons_succ, i64_w, i32_w]
      rfl
    refine pure_ (i := 8) (N := some 6) (v := ?_) (a' := ?_) #[true, true, true, true, true, true, true, true, true, false] rfl rfl (any_of HT_.out (by kernel_rfl)) (fun _ _ _ h => h) (Or.inl ⟨by rfl, ?_⟩) ?_ ?_
    rotate_left
    · intro w'
      go_simp
      with_reducible rfl
    rotate_left
    · simp only [Act.put, List.setIfInBounds_toArray, List.set_cons_zero, List.set_cons_succ, i64_w, i32_w]
      rfl
    refine pure_ (i := 9) (N := some 7) (v := ?_) (a' := ?_) #[true, true, true, true, true, true, true, true, true, true] rfl rfl (any_of HT_.out (by kernel_rfl)) (fun _ _ _ h => h) (Or.inl ⟨by rfl, ?_⟩) ?_ ?_
    rotate_left
    · intro w'
      go_simp
      with_reducible rfl
    rotate_left
    · simp only [Act.put, List.setIfInBounds_toArray, List.set_cons_zero, List.set_cons_succ, i64_w, i32_w]
      rfl
    refine done_ (done_of HT_.out (by kernel_rfl)) ?_
    go_upto_region 8 with (first | ((with_reducible refine gate_callee (f := 12) rfl ?_); refine goesL_ (some 30) rfl rfl Try.func12 (by kernel_rfl) rfl #[.slice A0 l0.length c0] rfl (by (try simp only [List.map_toArray, List.map_cons, List.map_nil]); first | done | rfl | (simp only [List.length_drop, List.length_take]; rfl)) ?_; (with_reducible refine (laws_toAccountS.calls k _ _ l0 t299 _ ?side1 ?side2 A9.out).mono ?_); (case side1 => repeat (first | exact (Kd.C_below HR0.out HB.out) | (with_reducible refine Kd.C_alloc ?_ _) | (with_reducible refine Kd.C_drewN ?_ _) | (with_reducible refine Kd.C_drew ?_))); (case side2 => exact HC0.out); rintro e w19 ⟨v300, rfl, ho0, hb⟩; refine ⟨_, rfl, ?_⟩; have n0_ := Aside0.mk (Kd.R_elder' (by (with_reducible repeat (first | apply Kd.R_alloc | apply Kd.R_drewN | apply Kd.R_drew)); exact HO292.out) (Kd.R_base ho0) hb); have n1_ := Aside0.mk (Kd.R_elder' (by (with_reducible repeat (first | apply Kd.R_alloc | apply Kd.R_drewN | apply Kd.R_drew)); exact HO297.out) (Kd.R_base ho0) hb); have n2_ := Aside0.mk (Kd.R_lower (Kd.R_new' (Kd.R_new' ho0 (Kd.R_lt (by (with_reducible repeat (first | apply Kd.R_alloc | apply Kd.R_drewN | apply Kd.R_drew)); exact HO292.out))) (Kd.R_lt (by (with_reducible repeat (first | apply Kd.R_alloc | apply Kd.R_drewN | apply Kd.R_drew)); exact HO297.out))) (below_size (by repeat (first | (with_reducible first | exact HB.out | apply below_alloc | apply pw_below_drewN | apply below_drew1 | refine below_set ?_ GE288.out) | exact HB.out)))); have n3_ := Aside0.mk (blk_below (g := gb288) (o := .cells #[.int .i64 a1_0, .int .i64 a1_1] 41 (0, 0)) (by (with_reducible repeat (first | refine blk_drewN ?_ _ | refine blk_drew ?_ | refine blk_alloc ?_ _)); exact BK288.out) hb); have n4_ := Aside0.mk (below_step (by repeat (first | (with_reducible first | exact HB.out | apply below_alloc | apply pw_below_drewN | apply below_drew1 | refine below_set ?_ GE288.out) | exact HB.out)) hb); clear HO292; clear HO297; clear BK288; clear HB; have HO292 := n0_; have HO297 := n1_; have HO301 := n2_; have BK288 := n3_; have HB := n4_; clear n0_ n1_ n2_ n3_ n4_; (try clear hb); (try clear hb2); (try clear hk); (try clear hi); (try clear ho0); have hcz20_0 : w19.cell? ⟨gb288, 0, none⟩ = some (.int .i64 a1_0) := (blk_cell BK288.out 0).trans rfl; have hcz20_1 : w19.cell? ⟨gb288, 1, none⟩ = some (.int .i64 a1_1) := (blk_cell BK288.out 1).trans rfl; have hfz20_0 := blk_frozen BK288.out 0; have hfz20_1 := blk_frozen BK288.out 1) | ((with_reducible refine gate_callee (f := 25) rfl ?_); refine goesL_ (some 34) rfl rfl Try.func25 (by kernel_rfl) rfl #[.agg #[.int .i64 a1_0, .int .i64 a1_1]] rfl (by (try simp only [List.map_toArray, List.map_cons, List.map_nil]); first | done | rfl | (simp only [List.length_drop, List.length_take]; rfl)) ?_; (with_reducible refine (laws_toAccount.calls a1_0 a1_1 t302 t303 _ A10.out).mono ?_); rintro e w21 ⟨rfl, hb⟩; refine ⟨_, rfl, ?_⟩; have n0_ := Aside0.mk (Kd.R_below (by (with_reducible repeat (first | apply Kd.R_alloc | apply Kd.R_drewN | apply Kd.R_drew)); exact HO292.out) hb); have n1_ := Aside0.mk (Kd.R_below (by (with_reducible repeat (first | apply Kd.R_alloc | apply Kd.R_drewN | apply Kd.R_drew)); exact HO297.out) hb); have n2_ := Aside0.mk (Kd.R_below (by (with_reducible repeat (first | apply Kd.R_alloc | apply Kd.R_drewN | apply Kd.R_drew)); exact HO301.out) hb); have n3_ := Aside0.mk (blk_below (g := gb288) (o := .cells #[.int .i64 a1_0, .int .i64 a1_1] 41 (0, 0)) (by (with_reducible repeat (first | refine blk_drewN ?_ _ | refine blk_drew ?_ | refine blk_alloc ?_ _)); exact BK288.out) hb); have n4_ := Aside0.mk (below_step (by repeat (first | (with_reducible first | exact HB.out | apply below_alloc | apply pw_below_drewN | apply below_drew1 | refine below_set ?_ GE288.out) | exact HB.out)) hb); clear HO292; clear HO297; clear HO301; clear BK288; clear HB; have HO292 := n0_; have HO297 := n1_; have HO301 := n2_; have BK288 := n3_; have HB := n4_; clear n0_ n1_ n2_ n3_ n4_; (try clear hb); (try clear hb2); (try clear hk); (try clear hi); obtain ⟨Ao22, co22, eo22⟩ := Kd.R_slice HO301.out; subst eo22) | ((with_reducible refine gate_callee (f := 26) rfl ?_); refine goesL_ (some 35) rfl rfl Try.func26 (by kernel_rfl) rfl #[.slice Ao22 t299.length co22, .agg #[.int .i64 t302, .int .i64 t303]] rfl (by (try simp only [List.map_toArray, List.map_cons, List.map_nil]); first | done | rfl | (simp only [List.length_drop, List.length_take]; rfl)) ?_; (with_reducible refine (impl_AccountPut.calls k _ _ t299 t302 t303 t304 t307 _ ?side1 ?side2 A11.out).mono ?_); (case side1 => repeat (first | exact (Kd.R_reads' HO301.out).2.2 | (with_reducible refine Kd.C_alloc ?_ _) | (with_reducible refine Kd.C_drewN ?_ _) | (with_reducible refine Kd.C_drew ?_))); (case side2 => exact (Kd.R_reads' HO301.out).2.1); rintro e w23 ⟨v305, rfl, ho0, hb⟩; refine ⟨_, rfl, ?_⟩; have n0_ := Aside0.mk (Kd.R_elder' (by (with_reducible repeat (first | apply Kd.R_alloc | apply Kd.R_drewN | apply Kd.R_drew)); exact HO292.out) (Kd.R_base ho0) hb); have n1_ := Aside0.mk (Kd.R_elder' (by (with_reducible repeat (first | apply Kd.R_alloc | apply Kd.R_drewN | apply Kd.R_drew)); exact HO297.out) (Kd.R_base ho0) hb); have n2_ := Aside0.mk (Kd.R_elder' (by (with_reducible repeat (first | apply Kd.R_alloc | apply Kd.R_drewN | apply Kd.R_drew)); exact HO301.out) (Kd.R_base ho0) hb); have n3_ := Aside0.mk (Kd.R_lower (Kd.R_new' (Kd.R_new' (Kd.R_new' ho0 (Kd.R_lt (by (with_reducible repeat (first | apply Kd.R_alloc | apply Kd.R_drewN | apply Kd.R_drew)); exact HO292.out))) (Kd.R_lt (by (with_reducible repeat (first | apply Kd.R_alloc | apply Kd.R_drewN | apply Kd.R_drew)); exact HO297.out))) (Kd.R_lt (by (with_reducible repeat (first | apply Kd.R_alloc | apply Kd.R_drewN | apply Kd.R_drew)); exact HO301.out))) (below_size (by repeat (first | (with_reducible first | exact HB.out | apply below_alloc | apply pw_below_drewN | apply below_drew1 | refine below_set ?_ GE288.out) | exact HB.out)))); have n4_ := Aside0.mk (blk_below (g := gb288) (o := .cells #[.int .i64 a1_0, .int .i64 a1_1] 41 (0, 0)) (by (with_reducible repeat (first | refine blk_drewN ?_ _ | refine blk_drew ?_ | refine blk_alloc ?_ _)); exact BK288.out) hb); have n5_ := Aside0.mk (below_step (by repeat (first | (with_reducible first | exact HB.out | apply below_alloc | apply pw_below_drewN | apply below_drew1 | refine below_set ?_ GE288.out) | exact HB.out)) hb); clear HO292; clear HO297; clear HO301; clear BK288; clear HB; have HO292 := n0_; have HO297 := n1_; have HO301 := n2_; have HO306 := n3_; have BK288 := n4_; have HB := n5_; clear n0_ n1_ n2_ n3_ n4_ n5_; (try clear hb); (try clear hb2); (try clear hk); (try clear hi); (try clear ho0)))
    (try simp only [Act.put, List.setIfInBounds_toArray, List.set_cons_zero, List.set_cons_succ])
    go_cut [46] (fun v46 wc => ∃ (kq : Nat) (x46_11 : Bool), v46 = .bool x46_11 ∧ Aside0 (laws_FnExactAccountPut.j0 kq l0 t295 t298 t299 t304 t307 x46_11 a1_0 a1_1 = some r) ∧ Aside0 (kq ≤ k) ∧ Aside0 (Kd.R k44 44 wc w.heap.size (fun k_ => some k_ ≠ ((.slice Ao22 t299.length co22) : Value).ownBlock ∧ some k_ ≠ (v305 : Value).ownBlock) v296 t295) ∧ Aside0 (Kd.R k44 44 wc w.heap.size (fun k_ => some k_ ≠ (v296 : Value).ownBlock ∧ some k_ ≠ (v305 : Value).ownBlock) (.slice Ao22 t299.length co22) t299) ∧ Aside0 (Kd.R k44 44 wc w.heap.size (fun k_ => some k_ ≠ (v296 : Value).ownBlock ∧ some k_ ≠ ((.slice Ao22 t299.length co22) : Value).ownBlock) v305 t304) ∧ Aside0 (wc.heap[gb288]? = some (.cells #[.int .i64 a1_0, .int .i64 a1_1] 41 (0, 0))) ∧ Aside0 (Below w.heap.size w wc))
    case first => as_aux_lemma =>
      have H := HC12.out
      clear HC12
      replace H := Option.bind_eq_some_iff.mp H
      obtain ⟨t308, A240, H⟩ := H
      replace H : (if t308 = true then (laws_FnExactAccountPut.j0 k l0 t295 t298 t299 t304 t307 (t307 != t298) a1_0 a1_1) else (laws_FnExactAccountPut.j0 k l0 t295 t298 t299 t304 t307 true a1_0 a1_1)) = some r := H
      have A24 := Aside0.mk A240
      clear A240
      by_cases c25 : t308 = true
      · as_aux_lemma =>
        subst c25
        have H1 : (laws_FnExactAccountPut.j0 k l0 t295 t298 t299 t304 t307 (t307 != t298) a1_0 a1_1) = some r := by rw [if_pos rfl] at H; exact H
        clear H
        have H := H1
        clear H1
        have H' := Aside0.mk H
        clear H
        obtain ⟨Ao26, co26, eo26⟩ := Kd.R_slice HO306.out
        subst eo26
        obtain ⟨Ao27, co27, eo27⟩ := Kd.R_slice HO297.out
        subst eo27
        go_wp2_with (first | ((with_reducible refine gate_callee (f := 14) rfl ?_); refine goesL_ (some 40) rfl rfl Try.func14 (by kernel_rfl) rfl #[.slice Ao26 t304.length co26, .slice Ao27 t295.length co27] rfl (by (try simp only [List.map_toArray, List.map_cons, List.map_nil]); first | done | rfl | (simp only [List.length_drop, List.length_take]; rfl)) ?_; (with_reducible refine (laws_eqAccountS.calls k _ _ t304 _ _ t295 true _ ?side1 ?side2 ?side3 ?side4 A24.out).mono ?_); (case side1 => repeat (first | exact (Kd.R_reads' HO306.out).2.2 | (with_reducible refine Kd.C_alloc ?_ _) | (with_reducible refine Kd.C_drewN ?_ _) | (with_reducible refine Kd.C_drew ?_))); (case side2 => exact (Kd.R_reads' HO306.out).2.1); (case side3 => repeat (first | exact (Kd.R_reads' HO297.out).2.2 | (with_reducible refine Kd.C_alloc ?_ _) | (with_reducible refine Kd.C_drewN ?_ _) | (with_reducible refine Kd.C_drew ?_))); (case side4 => exact (Kd.R_reads' HO297.out).2.1); rintro e w28 ⟨rfl, hb⟩; refine ⟨_, rfl, ?_⟩; have n0_ := Aside0.mk (Kd.R_below (by (with_reducible repeat (first | apply Kd.R_alloc | apply Kd.R_drewN | apply Kd.R_drew)); exact HO292.out) hb); have n1_ := Aside0.mk (Kd.R_below (by (with_reducible repeat (first | apply Kd.R_alloc | apply Kd.R_drewN | apply Kd.R_drew)); exact HO297.out) hb); have n2_ := Aside0.mk (Kd.R_below (by (with_reducible repeat (first | apply Kd.R_alloc | apply Kd.R_drewN | apply Kd.R_drew)); exact HO301.out) hb); have n3_ := Aside0.mk (Kd.R_below (by (with_reducible repeat (first | apply Kd.R_alloc | apply Kd.R_drewN | apply Kd.R_drew)); exact HO306.out) hb); have n4_ := Aside0.mk (blk_below (g := gb288) (o := .cells #[.int .i64 a1_0, .int .i64 a1_1] 41 (0, 0)) (by (with_reducible repeat (first | refine blk_drewN ?_ _ | refine blk_drew ?_ | refine blk_alloc ?_ _)); exact BK288.out) hb); have n5_ := Aside0.mk (below_step (by repeat (first | (with_reducible first | exact HB.out | apply below_alloc | apply pw_below_drewN | apply below_drew1 | refine below_set ?_ GE288.out) | exact HB.out)) hb); clear HO292; clear HO297; clear HO301; clear HO306; clear BK288; clear HB; have HO292 := n0_; have HO297 := n1_; have HO301 := n2_; have HO306 := n3_; have BK288 := n4_; have HB := n5_; clear n0_ n1_ n2_ n3_ n4_ n5_; (try clear hb); (try clear hb2); (try clear hk); (try clear hi)))
        go_meet
        case rel => exact ⟨_, ((t307 != t298)), (by first | rfl | (simp; done) | (simp [*]; done)), H', ⟨by first | omega | exact Nat.le_refl _⟩, ⟨by (with_reducible repeat (first | apply Kd.R_alloc | apply Kd.R_drewN | apply Kd.R_drew)); exact Kd.R_mono HO297.out (fun _ hk => ⟨hk.1.2, hk.2⟩)⟩, ⟨by (with_reducible repeat (first | apply Kd.R_alloc | apply Kd.R_drewN | apply Kd.R_drew)); exact Kd.R_mono HO301.out (fun _ hk => ⟨hk.1.2, hk.2⟩)⟩, ⟨by (with_reducible repeat (first | apply Kd.R_alloc | apply Kd.R_drewN | apply Kd.R_drew)); exact Kd.R_mono HO306.out (fun _ hk => ⟨hk.1.2, hk.2⟩)⟩, ⟨by (with_reducible repeat (first | refine blk_drewN ?_ _ | refine blk_drew ?_ | refine blk_alloc ?_ _)); exact BK288.out⟩, ⟨by repeat (first | (with_reducible first | exact HB.out | apply below_alloc | apply pw_below_drewN | apply below_drew1 | refine below_set ?_ GE288.out) | exact HB.out)⟩⟩
      · as_aux_lemma =>
        replace c25 := Bool.eq_false_iff.mpr c25
        subst c25
        have H1 : (laws_FnExactAccountPut.j0 k l0 t295 t298 t299 t304 t307 true a1_0 a1_1) = some r := by rw [if_neg (show ¬ (false = true) by decide)] at H; exact H
        clear H
        have H := H1
        clear H1
        have H' := Aside0.mk H
        clear H
        obtain ⟨Ao29, co29, eo29⟩ := Kd.R_slice HO306.out
        subst eo29
        obtain ⟨Ao30, co30, eo30⟩ := Kd.R_slice HO297.out
        subst eo30
        go_wp2_with (first | ((with_reducible refine gate_callee (f := 14) rfl ?_); refine goesL_ (some 40) rfl rfl Try.func14 (by kernel_rfl) rfl #[.slice Ao29 t304.length co29, .slice Ao30 t295.length co30] rfl (by (try simp only [List.map_toArray, List.map_cons, List.map_nil]); first | done | rfl | (simp only [List.length_drop, List.length_take]; rfl)) ?_; (with_reducible refine (laws_eqAccountS.calls k _ _ t304 _ _ t295 false _ ?side1 ?side2 ?side3 ?side4 A24.out).mono ?_); (case side1 => repeat (first | exact (Kd.R_reads' HO306.out).2.2 | (with_reducible refine Kd.C_alloc ?_ _) | (with_reducible refine Kd.C_drewN ?_ _) | (with_reducible refine Kd.C_drew ?_))); (case side2 => exact (Kd.R_reads' HO306.out).2.1); (case side3 => repeat (first | exact (Kd.R_reads' HO297.out).2.2 | (with_reducible refine Kd.C_alloc ?_ _) | (with_reducible refine Kd.C_drewN ?_ _) | (with_reducible refine Kd.C_drew ?_))); (case side4 => exact (Kd.R_reads' HO297.out).2.1); rintro e w31 ⟨rfl, hb⟩; refine ⟨_, rfl, ?_⟩; have n0_ := Aside0.mk (Kd.R_below (by (with_reducible repeat (first | apply Kd.R_alloc | apply Kd.R_drewN | apply Kd.R_drew)); exact HO292.out) hb); have n1_ := Aside0.mk (Kd.R_below (by (with_reducible repeat (first | apply Kd.R_alloc | apply Kd.R_drewN | apply Kd.R_drew)); exact HO297.out) hb); have n2_ := Aside0.mk (Kd.R_below (by (with_reducible repeat (first | apply Kd.R_alloc | apply Kd.R_drewN | apply Kd.R_drew)); exact HO301.out) hb); have n3_ := Aside0.mk (Kd.R_below (by (with_reducible repeat (first | apply Kd.R_alloc | apply Kd.R_drewN | apply Kd.R_drew)); exact HO306.out) hb); have n4_ := Aside0.mk (blk_below (g := gb288) (o := .cells #[.int .i64 a1_0, .int .i64 a1_1] 41 (0, 0)) (by (with_reducible repeat (first | refine blk_drewN ?_ _ | refine blk_drew ?_ | refine blk_alloc ?_ _)); exact BK288.out) hb); have n5_ := Aside0.mk (below_step (by repeat (first | (with_reducible first | exact HB.out | apply below_alloc | apply pw_below_drewN | apply below_drew1 | refine below_set ?_ GE288.out) | exact HB.out)) hb); clear HO292; clear HO297; clear HO301; clear HO306; clear BK288; clear HB; have HO292 := n0_; have HO297 := n1_; have HO301 := n2_; have HO306 := n3_; have BK288 := n4_; have HB := n5_; clear n0_ n1_ n2_ n3_ n4_ n5_; (try clear hb); (try clear hb2); (try clear hk); (try clear hi)))
        go_meet
        case rel => exact ⟨_, (true), (by first | rfl | (simp; done) | (simp [*]; done)), H', ⟨by first | omega | exact Nat.le_refl _⟩, ⟨by (with_reducible repeat (first | apply Kd.R_alloc | apply Kd.R_drewN | apply Kd.R_drew)); exact Kd.R_mono HO297.out (fun _ hk => ⟨hk.1.2, hk.2⟩)⟩, ⟨by (with_reducible repeat (first | apply Kd.R_alloc | apply Kd.R_drewN | apply Kd.R_drew)); exact Kd.R_mono HO301.out (fun _ hk => ⟨hk.1.2, hk.2⟩)⟩, ⟨by (with_reducible repeat (first | apply Kd.R_alloc | apply Kd.R_drewN | apply Kd.R_drew)); exact Kd.R_mono HO306.out (fun _ hk => ⟨hk.1.2, hk.2⟩)⟩, ⟨by (with_reducible repeat (first | refine blk_drewN ?_ _ | refine blk_drew ?_ | refine blk_alloc ?_ _)); exact BK288.out⟩, ⟨by repeat (first | (with_reducible first | exact HB.out | apply below_alloc | apply pw_below_drewN | apply below_drew1 | refine below_set ?_ GE288.out) | exact HB.out)⟩⟩
    case rest => as_aux_lemma =>
      clear HC12
      try clear c1
      try clear c2
      try clear p2
      try clear c4
      try clear c4b0
      try clear c7
      try clear c10
      try clear c12
      try clear c14
      try clear c24
      try clear c25
      try clear c26
      try clear hcz20_0
      try clear hcz20_1
      try clear hfz20_0
      try clear hfz20_1
      obtain ⟨kq, x46_11, rfl, HA, HJ11, HO_6, HO_8, HO_9, BK288, HB⟩ := hcut
      cases kq with
      | zero => exact absurd HA.out (by simp [laws_FnExactAccountPut.j0])
      | succ kj11 =>
        have H := HA.out
        clear HA
        simp only [laws_FnExactAccountPut.j0] at H
        by_cases c32 : x46_11 = true
        · as_aux_lemma =>
          subst c32
          have H1 : (none) = some r := by rw [if_pos rfl] at H; exact H
          clear H
          have H := H1
          clear H1
          exact absurd H (by simp)
        · as_aux_lemma =>
          replace c32 := Bool.eq_false_iff.mpr c32
          subst c32
          have H1 : ((laws_toAccountS.f kj11 l0).bind fun t309 => ((laws_eqAccountS.f kj11 t299 t309).bind fun t312 => (if t312 = true then ((laws_markAccountS.f kj11 t299 1).bind fun bt313 => (if bt313.1 < 0 then (laws_FnExactAccountPut.j1 kj11 l0 t295 t298 t304 true a1_0 a1_1) else ((laws_eqAccountS.f kj11 t304 t295).bind fun t315 => (if t315 = true then (laws_FnExactAccountPut.j1 kj11 l0 t295 t298 t304 (t307 != t298) a1_0 a1_1) else (laws_FnExactAccountPut.j1 kj11 l0 t295 t298 t304 true a1_0 a1_1))))) else (none)))) = some r := by rw [if_neg (show ¬ (false = true) by decide)] at H; exact H
          clear H
          have H := H1
          clear H1
          replace H := Option.bind_eq_some_iff.mp H
          obtain ⟨t309, A330, H⟩ := H
          replace H : ((laws_eqAccountS.f kj11 t299 t309).bind fun t312 => (if t312 = true then ((laws_markAccountS.f kj11 t299 1).bind fun bt313 => (if bt313.1 < 0 then (laws_FnExactAccountPut.j1 kj11 l0 t295 t298 t304 true a1_0 a1_1) else ((laws_eqAccountS.f kj11 t304 t295).bind fun t315 => (if t315 = true then (laws_FnExactAccountPut.j1 kj11 l0 t295 t298 t304 (t307 != t298) a1_0 a1_1) else (laws_FnExactAccountPut.j1 kj11 l0 t295 t298 t304 true a1_0 a1_1))))) else (none))) = some r := H
          have A33 := Aside0.mk A330
          clear A330
          replace H := Option.bind_eq_some_iff.mp H
          obtain ⟨t312, A340, H⟩ := H
          replace H : (if t312 = true then ((laws_markAccountS.f kj11 t299 1).bind fun bt313 => (if bt313.1 < 0 then (laws_FnExactAccountPut.j1 kj11 l0 t295 t298 t304 true a1_0 a1_1) else ((laws_eqAccountS.f kj11 t304 t295).bind fun t315 => (if t315 = true then (laws_FnExactAccountPut.j1 kj11 l0 t295 t298 t304 (t307 != t298) a1_0 a1_1) else (laws_FnExactAccountPut.j1 kj11 l0 t295 t298 t304 true a1_0 a1_1))))) else (none)) = some r := H
          have A34 := Aside0.mk A340
          clear A340
          by_cases c35 : t312 = true
          · as_aux_lemma =>
            subst c35
            have H1 : ((laws_markAccountS.f kj11 t299 1).bind fun bt313 => (if bt313.1 < 0 then (laws_FnExactAccountPut.j1 kj11 l0 t295 t298 t304 true a1_0 a1_1) else ((laws_eqAccountS.f kj11 t304 t295).bind fun t315 => (if t315 = true then (laws_FnExactAccountPut.j1 kj11 l0 t295 t298 t304 (t307 != t298) a1_0 a1_1) else (laws_FnExactAccountPut.j1 kj11 l0 t295 t298 t304 true a1_0 a1_1))))) = some r := by rw [if_pos rfl] at H; exact H
            clear H
            have H := H1
            clear H1
            replace H := Option.bind_eq_some_iff.mp H
            obtain ⟨⟨t313, t314⟩, A360, H⟩ := H
            replace H : (if t313 < 0 then (laws_FnExactAccountPut.j1 kj11 l0 t295 t298 t304 true a1_0 a1_1) else ((laws_eqAccountS.f kj11 t304 t295).bind fun t315 => (if t315 = true then (laws_FnExactAccountPut.j1 kj11 l0 t295 t298 t304 (t307 != t298) a1_0 a1_1) else (laws_FnExactAccountPut.j1 kj11 l0 t295 t298 t304 true a1_0 a1_1)))) = some r := H
            have A36 := Aside0.mk A360
            clear A360
            have HC37 := Aside0.mk H
            clear H
            go_upto_region 14 with (first | ((with_reducible refine gate_callee (f := 12) rfl ?_); refine goesL_ (some 49) rfl rfl Try.func12 (by kernel_rfl) rfl #[.slice A0 l0.length c0] rfl (by (try simp only [List.map_toArray, List.map_cons, List.map_nil]); first | done | rfl | (simp only [List.length_drop, List.length_take]; rfl)) ?_; (with_reducible refine (laws_toAccountS.calls kj11 _ _ l0 t309 _ ?side1 ?side2 A33.out).mono ?_); (case side1 => repeat (first | exact (Kd.C_below HR0.out HB.out) | (with_reducible refine Kd.C_alloc ?_ _) | (with_reducible refine Kd.C_drewN ?_ _) | (with_reducible refine Kd.C_drew ?_))); (case side2 => exact HC0.out); rintro e w38 ⟨v310, rfl, ho0, hb⟩; refine ⟨_, rfl, ?_⟩; have n0_ := Aside0.mk (Kd.R_elder' (by (with_reducible repeat (first | apply Kd.R_alloc | apply Kd.R_drewN | apply Kd.R_drew)); exact HO_6.out) (Kd.R_base ho0) hb); have n1_ := Aside0.mk (Kd.R_elder' (by (with_reducible repeat (first | apply Kd.R_alloc | apply Kd.R_drewN | apply Kd.R_drew)); exact HO_8.out) (Kd.R_base ho0) hb); have n2_ := Aside0.mk (Kd.R_elder' (by (with_reducible repeat (first | apply Kd.R_alloc | apply Kd.R_drewN | apply Kd.R_drew)); exact HO_9.out) (Kd.R_base ho0) hb); have n3_ := Aside0.mk (Kd.R_lower (Kd.R_new' (Kd.R_new' (Kd.R_new' ho0 (Kd.R_lt (by (with_reducible repeat (first | apply Kd.R_alloc | apply Kd.R_drewN | apply Kd.R_drew)); exact HO_6.out))) (Kd.R_lt (by (with_reducible repeat (first | apply Kd.R_alloc | apply Kd.R_drewN | apply Kd.R_drew)); exact HO_8.out))) (Kd.R_lt (by (with_reducible repeat (first | apply Kd.R_alloc | apply Kd.R_drewN | apply Kd.R_drew)); exact HO_9.out))) (below_size (by repeat (first | (with_reducible first | exact HB.out | apply below_alloc | apply pw_below_drewN | apply below_drew1 | refine below_set ?_ GE288.out) | exact HB.out)))); have n4_ := Aside0.mk (blk_below (g := gb288) (o := .cells #[.int .i64 a1_0, .int .i64 a1_1] 41 (0, 0)) (by (with_reducible repeat (first | refine blk_drewN ?_ _ | refine blk_drew ?_ | refine blk_alloc ?_ _)); exact BK288.out) hb); have n5_ := Aside0.mk (below_step (by repeat (first | (with_reducible first | exact HB.out | apply below_alloc | apply pw_below_drewN | apply below_drew1 | refine below_set ?_ GE288.out) | exact HB.out)) hb); clear HO_6; clear HO_8; clear HO_9; clear BK288; clear HB; have HO_6 := n0_; have HO_8 := n1_; have HO_9 := n2_; have HO311 := n3_; have BK288 := n4_; have HB := n5_; clear n0_ n1_ n2_ n3_ n4_ n5_; (try clear hb); (try clear hb2); (try clear hk); (try clear hi); (try clear ho0); obtain ⟨Ao39, co39, eo39⟩ := Kd.R_slice HO311.out; subst eo39) | ((with_reducible refine gate_callee (f := 14) rfl ?_); refine goesL_ (some 50) rfl rfl Try.func14 (by kernel_rfl) rfl #[.slice Ao22 t299.length co22, .slice Ao39 t309.length co39] rfl (by (try simp only [List.map_toArray, List.map_cons, List.map_nil]); first | done | rfl | (simp only [List.length_drop, List.length_take]; rfl)) ?_; (with_reducible refine (laws_eqAccountS.calls kj11 _ _ t299 _ _ t309 true _ ?side1 ?side2 ?side3 ?side4 A34.out).mono ?_); (case side1 => repeat (first | exact (Kd.R_reads' HO_8.out).2.2 | (with_reducible refine Kd.C_alloc ?_ _) | (with_reducible refine Kd.C_drewN ?_ _) | (with_reducible refine Kd.C_drew ?_))); (case side2 => exact (Kd.R_reads' HO_8.out).2.1); (case side3 => repeat (first | exact (Kd.R_reads' HO311.out).2.2 | (with_reducible refine Kd.C_alloc ?_ _) | (with_reducible refine Kd.C_drewN ?_ _) | (with_reducible refine Kd.C_drew ?_))); (case side4 => exact (Kd.R_reads' HO311.out).2.1); rintro e w40 ⟨rfl, hb⟩; refine ⟨_, rfl, ?_⟩; have n0_ := Aside0.mk (Kd.R_below (by (with_reducible repeat (first | apply Kd.R_alloc | apply Kd.R_drewN | apply Kd.R_drew)); exact HO_6.out) hb); have n1_ := Aside0.mk (Kd.R_below (by (with_reducible repeat (first | apply Kd.R_alloc | apply Kd.R_drewN | apply Kd.R_drew)); exact HO_8.out) hb); have n2_ := Aside0.mk (Kd.R_below (by (with_reducible repeat (first | apply Kd.R_alloc | apply Kd.R_drewN | apply Kd.R_drew)); exact HO_9.out) hb); have n3_ := Aside0.mk (Kd.R_below (by (with_reducible repeat (first | apply Kd.R_alloc | apply Kd.R_drewN | apply Kd.R_drew)); exact HO311.out) hb); have n4_ := Aside0.mk (blk_below (g := gb288) (o := .cells #[.int .i64 a1_0, .int .i64 a1_1] 41 (0, 0)) (by (with_reducible repeat (first | refine blk_drewN ?_ _ | refine blk_drew ?_ | refine blk_alloc ?_ _)); exact BK288.out) hb); have n5_ := Aside0.mk (below_step (by repeat (first | (with_reducible first | exact HB.out | apply below_alloc | apply pw_below_drewN | apply below_drew1 | refine below_set ?_ GE288.out) | exact HB.out)) hb); clear HO_6; clear HO_8; clear HO_9; clear HO311; clear BK288; clear HB; have HO_6 := n0_; have HO_8 := n1_; have HO_9 := n2_; have HO311 := n3_; have BK288 := n4_; have HB := n5_; clear n0_ n1_ n2_ n3_ n4_ n5_; (try clear hb); (try clear hb2); (try clear hk); (try clear hi)) | ((with_reducible refine gate_callee (f := 27) rfl ?_); refine goesL_ (some 54) rfl rfl Try.func27 (by kernel_rfl) rfl #[.slice Ao22 t299.length co22, .int .i64 1] rfl (by (try simp only [List.map_toArray, List.map_cons, List.map_nil]); first | done | rfl | (simp only [List.length_drop, List.length_take]; rfl)) ?_; (with_reducible refine (laws_markAccountS.calls kj11 (fun k_ => some k_ = (.slice Ao22 t299.length co22 : Value).ownBlock) (.slice Ao22 t299.length co22) t299 1 t313 t314 w _ ?side1 ?side2 A36.out).mono ?_); (case side1 => repeat (first | (with_reducible first | exact HB.out | apply below_alloc | apply pw_below_drewN | apply below_drew1 | refine below_set ?_ GE288.out) | exact HB.out)); (case side2 => exact Kd.R_tight rfl HO_8.out); rintro e w41 ⟨rfl, hy0, hb, hkp⟩; refine ⟨_, rfl, ?_⟩; have n0_ := Aside0.mk (Kd.R_mono (ok' := fun k_ => some k_ ≠ (.slice Ao22 t299.length co22 : Value).ownBlock ∧ some k_ ≠ (v305 : Value).ownBlock ∧ some k_ ≠ (.slice Ao39 t309.length co39 : Value).ownBlock) (Kd.R_keptB (HO_6.out) hkp (fun k_ hk_ hs_ => (hk_.1.1) hs_)) (fun k_ hk_ => ⟨hk_.1.1.1, hk_.1.1.2, hk_.1.2⟩)); have n1_ := Aside0.mk (Kd.R_reok rfl hy0 (fun k_ e_ => HO_8.out.1 k_ e_)); have n2_ := Aside0.mk (Kd.R_mono (ok' := fun k_ => some k_ ≠ (v296 : Value).ownBlock ∧ some k_ ≠ (.slice Ao22 t299.length co22 : Value).ownBlock ∧ some k_ ≠ (.slice Ao39 t309.length co39 : Value).ownBlock) (Kd.R_keptB (HO_9.out) hkp (fun k_ hk_ hs_ => (hk_.1.2) hs_)) (fun k_ hk_ => ⟨hk_.1.1.1, hk_.1.1.2, hk_.1.2⟩)); have n3_ := Aside0.mk (blk_kept (by (with_reducible repeat (first | refine blk_drewN ?_ _ | refine blk_drew ?_ | refine blk_alloc ?_ _)); exact BK288.out) hkp (fun hs_ => (fun e_ => (Kd.R_ne HO_8.out BK288.out (by decide)) e_) hs_)); have n4_ := Aside0.mk (Kd.R_mono (ok' := fun k_ => some k_ ≠ (v296 : Value).ownBlock ∧ some k_ ≠ (.slice Ao22 t299.length co22 : Value).ownBlock ∧ some k_ ≠ (v305 : Value).ownBlock) (Kd.R_keptB (HO311.out) hkp (fun k_ hk_ hs_ => (hk_.1.2) hs_)) (fun k_ hk_ => ⟨hk_.1.1.1.2, hk_.1.1.2, hk_.1.2⟩)); have n5_ := Aside0.mk (hb); clear HO_6; clear HO_8; clear HO_9; clear BK288; clear HO311; clear HB; have HO_6 := n0_; have HO_8 := n1_; have HO_9 := n2_; have BK288 := n3_; have HO311 := n4_; have HB := n5_; clear n0_ n1_ n2_ n3_ n4_ n5_; (try clear hb); (try clear hkp); (try clear hy0)))
            (try simp only [Act.put, List.setIfInBounds_toArray, List.set_cons_zero, List.set_cons_succ])
            go_cut [67] (fun v67 wc => ∃ (kq : Nat) (x67_36 : Bool), v67 = .bool x67_36 ∧ Aside0 (laws_FnExactAccountPut.j1 kq l0 t295 t298 t304 x67_36 a1_0 a1_1 = some r) ∧ Aside0 (kq ≤ kj11) ∧ Aside0 (Kd.R k44 44 wc w.heap.size (fun k_ => some k_ ≠ (v305 : Value).ownBlock) v296 t295) ∧ Aside0 (Kd.R k44 44 wc w.heap.size (fun k_ => some k_ ≠ (v296 : Value).ownBlock) v305 t304) ∧ Aside0 (wc.heap[gb288]? = some (.cells #[.int .i64 a1_0, .int .i64 a1_1] 41 (0, 0))) ∧ Aside0 (Below w.heap.size w wc))
            case first => as_aux_lemma =>
              have H := HC37.out
              clear HC37
              by_cases c42 : t313 < 0
              · as_aux_lemma =>
                rw [if_pos c42] at H
                have c42b0 : decide (t313 < 0) = true := decide_eq_true c42
                clear c42
                (first | rw [c42b0] | (simp only [i64_w, i32_w]; rw [c42b0]) | skip)
                have H' := Aside0.mk H
                clear H
                go_wp2
                go_meet
                case rel => exact ⟨_, (true), (by first | rfl | (simp; done) | (simp [*]; done)), H', ⟨by have := HJ11.out; first | omega | exact Nat.le_refl _⟩, ⟨by (with_reducible repeat (first | apply Kd.R_alloc | apply Kd.R_drewN | apply Kd.R_drew)); exact Kd.R_mono HO_6.out (fun _ hk => hk.2.1)⟩, ⟨by (with_reducible repeat (first | apply Kd.R_alloc | apply Kd.R_drewN | apply Kd.R_drew)); exact Kd.R_mono HO_9.out (fun _ hk => hk.1)⟩, ⟨by (with_reducible repeat (first | refine blk_drewN ?_ _ | refine blk_drew ?_ | refine blk_alloc ?_ _)); exact BK288.out⟩, ⟨by repeat (first | (with_reducible first | exact HB.out | apply below_alloc | apply pw_below_drewN | apply below_drew1 | refine below_set ?_ GE288.out) | exact HB.out)⟩⟩
              · as_aux_lemma =>
                rw [if_neg c42] at H
                have c42b0 : decide (t313 < 0) = false := decide_eq_false c42
                clear c42
                (first | rw [c42b0] | (simp only [i64_w, i32_w]; rw [c42b0]) | skip)
                replace H := Option.bind_eq_some_iff.mp H
                obtain ⟨t315, A430, H⟩ := H
                replace H : (if t315 = true then (laws_FnExactAccountPut.j1 kj11 l0 t295 t298 t304 (t307 != t298) a1_0 a1_1) else (laws_FnExactAccountPut.j1 kj11 l0 t295 t298 t304 true a1_0 a1_1)) = some r := H
                have A43 := Aside0.mk A430
                clear A430
                by_cases c44 : t315 = true
                · as_aux_lemma =>
                  subst c44
                  have H1 : (laws_FnExactAccountPut.j1 kj11 l0 t295 t298 t304 (t307 != t298) a1_0 a1_1) = some r := by rw [if_pos rfl] at H; exact H
                  clear H
                  have H := H1
                  clear H1
                  have H' := Aside0.mk H
                  clear H
                  obtain ⟨Ao45, co45, eo45⟩ := Kd.R_slice HO_9.out
                  subst eo45
                  obtain ⟨Ao46, co46, eo46⟩ := Kd.R_slice HO_6.out
                  subst eo46
                  go_wp2_with (first | (go_at_call 14; (with_reducible refine (laws_eqAccountS.calls kj11 _ _ t304 _ _ t295 true _ ?side1 ?side2 ?side3 ?side4 A43.out).mono ?_); (case side1 => repeat (first | exact (Kd.R_reads' HO_9.out).2.2 | (with_reducible refine Kd.C_alloc ?_ _) | (with_reducible refine Kd.C_drewN ?_ _) | (with_reducible refine Kd.C_drew ?_))); (case side2 => exact (Kd.R_reads' HO_9.out).2.1); (case side3 => repeat (first | exact (Kd.R_reads' HO_6.out).2.2 | (with_reducible refine Kd.C_alloc ?_ _) | (with_reducible refine Kd.C_drewN ?_ _) | (with_reducible refine Kd.C_drew ?_))); (case side4 => exact (Kd.R_reads' HO_6.out).2.1); rintro e w47 ⟨rfl, hb⟩; have n0_ := Aside0.mk (Kd.R_below (by (with_reducible repeat (first | apply Kd.R_alloc | apply Kd.R_drewN | apply Kd.R_drew)); exact HO_6.out) hb); have n1_ := Aside0.mk (Kd.R_below (by (with_reducible repeat (first | apply Kd.R_alloc | apply Kd.R_drewN | apply Kd.R_drew)); exact HO_8.out) hb); have n2_ := Aside0.mk (Kd.R_below (by (with_reducible repeat (first | apply Kd.R_alloc | apply Kd.R_drewN | apply Kd.R_drew)); exact HO_9.out) hb); have n3_ := Aside0.mk (Kd.R_below (by (with_reducible repeat (first | apply Kd.R_alloc | apply Kd.R_drewN | apply Kd.R_drew)); exact HO311.out) hb); have n4_ := Aside0.mk (blk_below (g := gb288) (o := .cells #[.int .i64 a1_0, .int .i64 a1_1] 41 (0, 0)) (by (with_reducible repeat (first | refine blk_drewN ?_ _ | refine blk_drew ?_ | refine blk_alloc ?_ _)); exact BK288.out) hb); have n5_ := Aside0.mk (below_step (by repeat (first | (with_reducible first | exact HB.out | apply below_alloc | apply pw_below_drewN | apply below_drew1 | refine below_set ?_ GE288.out) | exact HB.out)) hb); clear HO_6; clear HO_8; clear HO_9; clear HO311; clear BK288; clear HB; have HO_6 := n0_; have HO_8 := n1_; have HO_9 := n2_; have HO311 := n3_; have BK288 := n4_; have HB := n5_; clear n0_ n1_ n2_ n3_ n4_ n5_; (try clear hb); (try clear hb2); (try clear hk); (try clear hi)))
                  go_meet
                  case rel => exact ⟨_, ((t307 != t298)), (by first | rfl | (simp; done) | (simp [*]; done)), H', ⟨by have := HJ11.out; first | omega | exact Nat.le_refl _⟩, ⟨by (with_reducible repeat (first | apply Kd.R_alloc | apply Kd.R_drewN | apply Kd.R_drew)); exact Kd.R_mono HO_6.out (fun _ hk => hk.2.1)⟩, ⟨by (with_reducible repeat (first | apply Kd.R_alloc | apply Kd.R_drewN | apply Kd.R_drew)); exact Kd.R_mono HO_9.out (fun _ hk => hk.1)⟩, ⟨by (with_reducible repeat (first | refine blk_drewN ?_ _ | refine blk_drew ?_ | refine blk_alloc ?_ _)); exact BK288.out⟩, ⟨by repeat (first | (with_reducible first | exact HB.out | apply below_alloc | apply pw_below_drewN | apply below_drew1 | refine below_set ?_ GE288.out) | exact HB.out)⟩⟩
                · as_aux_lemma =>
                  replace c44 := Bool.eq_false_iff.mpr c44
                  subst c44
                  have H1 : (laws_FnExactAccountPut.j1 kj11 l0 t295 t298 t304 true a1_0 a1_1) = some r := by rw [if_neg (show ¬ (false = true) by decide)] at H; exact H
                  clear H
                  have H := H1
                  clear H1
                  have H' := Aside0.mk H
                  clear H
                  obtain ⟨Ao48, co48, eo48⟩ := Kd.R_slice HO_9.out
                  subst eo48
                  obtain ⟨Ao49, co49, eo49⟩ := Kd.R_slice HO_6.out
                  subst eo49
                  go_wp2_with (first | (go_at_call 14; (with_reducible refine (laws_eqAccountS.calls kj11 _ _ t304 _ _ t295 false _ ?side1 ?side2 ?side3 ?side4 A43.out).mono ?_); (case side1 => repeat (first | exact (Kd.R_reads' HO_9.out).2.2 | (with_reducible refine Kd.C_alloc ?_ _) | (with_reducible refine Kd.C_drewN ?_ _) | (with_reducible refine Kd.C_drew ?_))); (case side2 => exact (Kd.R_reads' HO_9.out).2.1); (case side3 => repeat (first | exact (Kd.R_reads' HO_6.out).2.2 | (with_reducible refine Kd.C_alloc ?_ _) | (with_reducible refine Kd.C_drewN ?_ _) | (with_reducible refine Kd.C_drew ?_))); (case side4 => exact (Kd.R_reads' HO_6.out).2.1); rintro e w50 ⟨rfl, hb⟩; have n0_ := Aside0.mk (Kd.R_below (by (with_reducible repeat (first | apply Kd.R_alloc | apply Kd.R_drewN | apply Kd.R_drew)); exact HO_6.out) hb); have n1_ := Aside0.mk (Kd.R_below (by (with_reducible repeat (first | apply Kd.R_alloc | apply Kd.R_drewN | apply Kd.R_drew)); exact HO_8.out) hb); have n2_ := Aside0.mk (Kd.R_below (by (with_reducible repeat (first | apply Kd.R_alloc | apply Kd.R_drewN | apply Kd.R_drew)); exact HO_9.out) hb); have n3_ := Aside0.mk (Kd.R_below (by (with_reducible repeat (first | apply Kd.R_alloc | apply Kd.R_drewN | apply Kd.R_drew)); exact HO311.out) hb); have n4_ := Aside0.mk (blk_below (g := gb288) (o := .cells #[.int .i64 a1_0, .int .i64 a1_1] 41 (0, 0)) (by (with_reducible repeat (first | refine blk_drewN ?_ _ | refine blk_drew ?_ | refine blk_alloc ?_ _)); exact BK288.out) hb); have n5_ := Aside0.mk (below_step (by repeat (first | (with_reducible first | exact HB.out | apply below_alloc | apply pw_below_drewN | apply below_drew1 | refine below_set ?_ GE288.out) | exact HB.out)) hb); clear HO_6; clear HO_8; clear HO_9; clear HO311; clear BK288; clear HB; have HO_6 := n0_; have HO_8 := n1_; have HO_9 := n2_; have HO311 := n3_; have BK288 := n4_; have HB := n5_; clear n0_ n1_ n2_ n3_ n4_ n5_; (try clear hb); (try clear hb2); (try clear hk); (try clear hi)))
                  go_meet
                  case rel => exact ⟨_, (true), (by first | rfl | (simp; done) | (simp [*]; done)), H', ⟨by have := HJ11.out; first | omega | exact Nat.le_refl _⟩, ⟨by (with_reducible repeat (first | apply Kd.R_alloc | apply Kd.R_drewN | apply Kd.R_drew)); exact Kd.R_mono HO_6.out (fun _ hk => hk.2.1)⟩, ⟨by (with_reducible repeat (first | apply Kd.R_alloc | apply Kd.R_drewN | apply Kd.R_drew)); exact Kd.R_mono HO_9.out (fun _ hk => hk.1)⟩, ⟨by (with_reducible repeat (first | refine blk_drewN ?_ _ | refine blk_drew ?_ | refine blk_alloc ?_ _)); exact BK288.out⟩, ⟨by repeat (first | (with_reducible first | exact HB.out | apply below_alloc | apply pw_below_drewN | apply below_drew1 | refine below_set ?_ GE288.out) | exact HB.out)⟩⟩
            case rest => as_aux_lemma =>
              clear HC37
              try clear c1
              try clear c2
              try clear p2
              try clear c3
              try clear c4
              try clear c4b0
              try clear c7
              try clear c10
              try clear c12
              try clear c14
              try clear c24
              try clear c25
              try clear c26
              try clear c27
              try clear c32
              try clear c35
              try clear c42
              try clear c42b0
              try clear c44
              try clear hcz20_0
              try clear hcz20_1
              try clear hfz20_0
              try clear hfz20_1
              try clear p2
              obtain ⟨kq, x67_36, rfl, HA, HJ36, HO_6, HO_9, BK288, HB⟩ := hcut
              cases kq with
              | zero => exact absurd HA.out (by simp [laws_FnExactAccountPut.j1])
              | succ kj36 =>
                have H := HA.out
                clear HA
                simp only [laws_FnExactAccountPut.j1] at H
                by_cases c51 : x67_36 = true
                · as_aux_lemma =>
                  subst c51
                  have H1 : (none) = some r := by rw [if_pos rfl] at H; exact H
                  clear H
                  have H := H1
                  clear H1
                  exact absurd H (by simp)
                · as_aux_lemma =>
                  replace c51 := Bool.eq_false_iff.mpr c51
                  subst c51
                  have H1 : ((laws_markAccountS.f kj36 t304 1).bind fun bt316 => ((laws_heldAccountS.f kj36 bt316.2 1).bind fun t318 => (if t318 < 0 then (none) else (if t318 = bt316.1 then ((laws_toAccountS.f kj36 l0).bind fun t319 => ((laws_toAccount.f a1_0 a1_1).bind fun bt322 => ((impl_AccountPut.f kj36 t319 bt322.1 bt322.2).bind fun bt324 => ((laws_eqAccountS.f kj36 bt324.1 t295).bind fun t328 => (if t328 = true then (laws_FnExactAccountPut.j2 kj36 bt316.2 bt316.1 (bt324.2 != t298)) else (laws_FnExactAccountPut.j2 kj36 bt316.2 bt316.1 true)))))) else (none))))) = some r := by rw [if_neg (show ¬ (false = true) by decide)] at H; exact H
                  clear H
                  have H := H1
                  clear H1
                  replace H := Option.bind_eq_some_iff.mp H
                  obtain ⟨⟨t316, t317⟩, A520, H⟩ := H
                  replace H : ((laws_heldAccountS.f kj36 t317 1).bind fun t318 => (if t318 < 0 then (none) else (if t318 = t316 then ((laws_toAccountS.f kj36 l0).bind fun t319 => ((laws_toAccount.f a1_0 a1_1).bind fun bt322 => ((impl_AccountPut.f kj36 t319 bt322.1 bt322.2).bind fun bt324 => ((laws_eqAccountS.f kj36 bt324.1 t295).bind fun t328 => (if t328 = true then (laws_FnExactAccountPut.j2 kj36 t317 t316 (bt324.2 != t298)) else (laws_FnExactAccountPut.j2 kj36 t317 t316 true)))))) else (none)))) = some r := H
                  have A52 := Aside0.mk A520
                  clear A520
                  replace H := Option.bind_eq_some_iff.mp H
                  obtain ⟨t318, A530, H⟩ := H
                  replace H : (if t318 < 0 then (none) else (if t318 = t316 then ((laws_toAccountS.f kj36 l0).bind fun t319 => ((laws_toAccount.f a1_0 a1_1).bind fun bt322 => ((impl_AccountPut.f kj36 t319 bt322.1 bt322.2).bind fun bt324 => ((laws_eqAccountS.f kj36 bt324.1 t295).bind fun t328 => (if t328 = true then (laws_FnExactAccountPut.j2 kj36 t317 t316 (bt324.2 != t298)) else (laws_FnExactAccountPut.j2 kj36 t317 t316 true)))))) else (none))) = some r := H
                  have A53 := Aside0.mk A530
                  clear A530
                  by_cases c54 : t318 < 0
                  · as_aux_lemma =>
                    rw [if_pos c54] at H
                    exact absurd H (by simp)
                  · as_aux_lemma =>
                    rw [if_neg c54] at H
                    have c54b0 : decide (t318 < 0) = false := decide_eq_false c54
                    clear c54
                    by_cases c55 : t318 = t316
                    · as_aux_lemma =>
                      rw [if_pos c55] at H
                      have c55b0 : (t318 == t316) = true := beq_iff_eq.mpr c55
                      have c55b1 : (t318 != t316) = false := bne_eq_false_iff_eq.mpr c55
                      clear c55
                      replace H := Option.bind_eq_some_iff.mp H
                      obtain ⟨t319, A560, H⟩ := H
                      replace H : ((laws_toAccount.f a1_0 a1_1).bind fun bt322 => ((impl_AccountPut.f kj36 t319 bt322.1 bt322.2).bind fun bt324 => ((laws_eqAccountS.f kj36 bt324.1 t295).bind fun t328 => (if t328 = true then (laws_FnExactAccountPut.j2 kj36 t317 t316 (bt324.2 != t298)) else (laws_FnExactAccountPut.j2 kj36 t317 t316 true))))) = some r := H
                      have A56 := Aside0.mk A560
                      clear A560
                      replace H := Option.bind_eq_some_iff.mp H
                      obtain ⟨⟨t322, t323⟩, A570, H⟩ := H
                      replace H : ((impl_AccountPut.f kj36 t319 t322 t323).bind fun bt324 => ((laws_eqAccountS.f kj36 bt324.1 t295).bind fun t328 => (if t328 = true then (laws_FnExactAccountPut.j2 kj36 t317 t316 (bt324.2 != t298)) else (laws_FnExactAccountPut.j2 kj36 t317 t316 true)))) = some r := H
                      have A57 := Aside0.mk A570
                      clear A570
                      replace H := Option.bind_eq_some_iff.mp H
                      obtain ⟨⟨t324, t327⟩, A580, H⟩ := H
                      replace H : ((laws_eqAccountS.f kj36 t324 t295).bind fun t328 => (if t328 = true then (laws_FnExactAccountPut.j2 kj36 t317 t316 (t327 != t298)) else (laws_FnExactAccountPut.j2 kj36 t317 t316 true))) = some r := H
                      have A58 := Aside0.mk A580
                      clear A580
                      have HC59 := Aside0.mk H
                      clear H
                      obtain ⟨Ao60, co60, eo60⟩ := Kd.R_slice HO_9.out
                      subst eo60
                      try go_wp2_with (first | ((with_reducible refine gate_callee (f := 27) rfl ?_); refine goesL_ (some 70) rfl rfl Try.func27 (by kernel_rfl) rfl #[.slice Ao60 t304.length co60, .int .i64 1] rfl (by (try simp only [List.map_toArray, List.map_cons, List.map_nil]); first | done | rfl | (simp only [List.length_drop, List.length_take]; rfl)) ?_; (with_reducible refine (laws_markAccountS.calls kj36 (fun k_ => some k_ = (.slice Ao60 t304.length co60 : Value).ownBlock) (.slice Ao60 t304.length co60) t304 1 t316 t317 w _ ?side1 ?side2 A52.out).mono ?_); (case side1 => repeat (first | (with_reducible first | exact HB.out | apply below_alloc | apply pw_below_drewN | apply below_drew1 | refine below_set ?_ GE288.out) | exact HB.out)); (case side2 => exact Kd.R_tight rfl HO_9.out); rintro e w61 ⟨rfl, hy0, hb, hkp⟩; refine ⟨_, rfl, ?_⟩; have n0_ := Aside0.mk (Kd.R_mono (ok' := fun k_ => some k_ ≠ (.slice Ao60 t304.length co60 : Value).ownBlock) (Kd.R_keptB (HO_6.out) hkp (fun k_ hk_ hs_ => (hk_) hs_)) (fun k_ hk_ => hk_.1)); have n1_ := Aside0.mk (Kd.R_reok rfl hy0 (fun k_ e_ => HO_9.out.1 k_ e_)); have n2_ := Aside0.mk (blk_kept (by (with_reducible repeat (first | refine blk_drewN ?_ _ | refine blk_drew ?_ | refine blk_alloc ?_ _)); exact BK288.out) hkp (fun hs_ => (fun e_ => (Kd.R_ne HO_9.out BK288.out (by decide)) e_) hs_)); have n3_ := Aside0.mk (hb); clear HO_6; clear HO_9; clear BK288; clear HB; have HO_6 := n0_; have HO_9 := n1_; have BK288 := n2_; have HB := n3_; clear n0_ n1_ n2_ n3_; (try clear hb); (try clear hkp); (try clear hy0)) | ((with_reducible refine gate_callee (f := 28) rfl ?_); refine goesL_ (some 73) rfl rfl Try.func28 (by kernel_rfl) rfl #[.slice Ao60 t317.length co60, .int .i64 1] rfl (by (try simp only [List.map_toArray, List.map_cons, List.map_nil]); first | done | (rw [show t317.length = t304.length from (Kd.R_reads' HO_9.out).1.symm] <;> rfl) | rfl | (simp only [List.length_drop, List.length_take]; rfl)) ?_; (with_reducible refine (laws_heldAccountS.calls kj36 _ _ t317 1 t318 _ ?side1 ?side2 A53.out).mono ?_); (case side1 => repeat (first | exact (Kd.R_reads' HO_9.out).2.2 | (with_reducible refine Kd.C_alloc ?_ _) | (with_reducible refine Kd.C_drewN ?_ _) | (with_reducible refine Kd.C_drew ?_))); (case side2 => rw [show t317.length = t304.length from (Kd.R_reads' HO_9.out).1.symm]; exact (Kd.R_reads' HO_9.out).2.1); rintro e w' ⟨rfl, ⟨nd, rfl⟩⟩; refine ⟨_, rfl, ?_⟩))
                      (try (rw [drewN_self w61]; generalize hq_ : World.drewN w61 _ = w61; have n0_ : Aside0 (Kd.R k44 44 w61 w.heap.size (fun k_ => some k_ ≠ (.slice Ao60 t304.length co60 : Value).ownBlock) v296 t295) := ⟨by rw [← hq_]; exact (by (with_reducible repeat (first | apply Kd.R_alloc | apply Kd.R_drewN | apply Kd.R_drew)); exact HO_6.out)⟩; have n1_ : Aside0 (Kd.R k44 44 w61 w.heap.size (fun k_ => some k_ ≠ (v296 : Value).ownBlock) (.slice Ao60 t304.length co60) t317) := ⟨by rw [← hq_]; exact (by (with_reducible repeat (first | apply Kd.R_alloc | apply Kd.R_drewN | apply Kd.R_drew)); exact HO_9.out)⟩; have n2_ : Aside0 (w61.heap[gb288]? = some (.cells #[.int .i64 a1_0, .int .i64 a1_1] 41 (0, 0))) := ⟨by rw [← hq_]; exact (by (with_reducible repeat (first | refine blk_drewN ?_ _ | refine blk_drew ?_ | refine blk_alloc ?_ _)); exact BK288.out)⟩; have n3_ : Aside0 (Below w.heap.size w w61) := ⟨by rw [← hq_]; exact (by repeat (first | (with_reducible first | exact HB.out | apply below_alloc | apply pw_below_drewN | apply below_drew1 | refine below_set ?_ GE288.out) | exact HB.out))⟩; clear HO_6 HO_9 BK288 HB hq_; have HO_6 := n0_; have HO_9 := n1_; have BK288 := n2_; have HB := n3_; clear n0_ n1_ n2_ n3_))
                      have n0_ := Aside0.mk (Kd.R_drew HO_6.out)
                      have n1_ := Aside0.mk (Kd.R_drew HO_9.out)
                      have n2_ := Aside0.mk (blk_drew BK288.out)
                      have n3_ := Aside0.mk (below_drew1 HB.out)
                      clear HO_6
                      clear HO_9
                      clear BK288
                      clear HB
                      have HO_6 := n0_
                      have HO_9 := n1_
                      have BK288 := n2_
                      have HB := n3_
                      clear n0_ n1_ n2_ n3_
                      refine start_ (n := 10) (S := fun w' => w'.cell? ⟨gb288, 0, none⟩ = some (.int .i64 a1_0) ∧ w'.cell? ⟨gb288, 1, none⟩ = some (.int .i64 a1_1)) (ds := []) #[false, false, false, false, false, false, false, false, false, false] (by kernel_rfl) rfl rfl ⟨(blk_cell BK288.out 0).trans rfl, (blk_cell BK288.out 1).trans rfl⟩ (fun hHeld => ?_); refine with_tabW laws_FnExactAccountPut.tab24 laws_FnExactAccountPut.bits24 (fun HT_ HW_ => ?_)
                      generalize w61.drew = w62 at HO_6 HO_9 BK288 HB hHeld ⊢
                      refine pure_ (i := 0) (N := some 80) (v := ?_) (a' := ?_) #[true, false, false, false, false, false, false, false, false, false] rfl rfl (any_of HT_.out (by kernel_rfl)) (fun _ _ _ h => h) (Or.inl ⟨by rfl, ?_⟩) ?_ ?_
                      rotate_left
                      · intro w'
                        go_simp
                        with_reducible rfl
                      rotate_left
                      · simp only [Act.put, List.setIfInBounds_toArray, List.set_cons_zero, List.set_cons_succ, i64_w, i32_w]
                        rfl
                      refine take_ (i := 2) (N := some 82) (v := ?_) (a' := ?_) #[true, false, true, false, false, false, false, false, false, false] rfl rfl (take_ofW HT_.out HW_.out (by kernel_rfl)) (fun _ _ _ h => h) (Or.inl ⟨by rfl, ?_⟩) hHeld ?_ ?_
                      rotate_left
                      · rintro w' ⟨s0, s1⟩
                        go_simp
                        with_reducible rfl
                      rotate_left
                      · simp only [Act.put, List.setIfInBounds_toArray, List.set_cons_zero, List.set_cons_succ, i64_w, i32_w]
                        rfl
                      refine one_ (i := 1) (N := some 81) #[true, true, true, false, false, false, false, false, false, false] rfl rfl (one_of HT_.out (by kernel_rfl)) (by decide) (fun K hK => ?_)
                      refine goes_ Try.func12 (by kernel_rfl) rfl #[.slice A0 l0.length c0] (by rfl) rfl rfl (by (try simp only [List.map_toArray, List.map_cons, List.map_nil]); first | done | rfl | (simp only [List.length_drop, List.length_take]; rfl)) ?_
                      with_reducible refine (laws_toAccountS.calls kj36 _ _ l0 t319 _ ?side1 ?side2 A56.out).mono ?_
                      (case side1 => repeat (first | exact (Kd.C_below HR0.out HB.out) | (with_reducible refine Kd.C_alloc ?_ _) | (with_reducible refine Kd.C_drewN ?_ _) | (with_reducible refine Kd.C_drew ?_)))
                      (case side2 => exact HC0.out)
                      rintro e w63 ⟨v320, rfl, ho0, hb⟩
                      refine ⟨_, rfl, ?_⟩
                      have n0_ := Aside0.mk (Kd.R_elder' (by (with_reducible repeat (first | apply Kd.R_alloc | apply Kd.R_drewN | apply Kd.R_drew)); exact HO_6.out) (Kd.R_base ho0) hb)
                      have n1_ := Aside0.mk (Kd.R_elder' (by (with_reducible repeat (first | apply Kd.R_alloc | apply Kd.R_drewN | apply Kd.R_drew)); exact HO_9.out) (Kd.R_base ho0) hb)
                      have n2_ := Aside0.mk (Kd.R_lower (Kd.R_new' (Kd.R_new' ho0 (Kd.R_lt (by (with_reducible repeat (first | apply Kd.R_alloc | apply Kd.R_drewN | apply Kd.R_drew)); exact HO_6.out))) (Kd.R_lt (by (with_reducible repeat (first | apply Kd.R_alloc | apply Kd.R_drewN | apply Kd.R_drew)); exact HO_9.out))) (below_size (by repeat (first | (with_reducible first | exact HB.out | apply below_alloc | apply pw_below_drewN | apply below_drew1 | refine below_set ?_ GE288.out) | exact HB.out))))
                      have n3_ := Aside0.mk (blk_below (g := gb288) (o := .cells #[.int .i64 a1_0, .int .i64 a1_1] 41 (0, 0)) (by (with_reducible repeat (first | refine blk_drewN ?_ _ | refine blk_drew ?_ | refine blk_alloc ?_ _)); exact BK288.out) hb)
                      have n4_ := Aside0.mk (below_step (by repeat (first | (with_reducible first | exact HB.out | apply below_alloc | apply pw_below_drewN | apply below_drew1 | refine below_set ?_ GE288.out) | exact HB.out)) hb)
                      clear HO_6
                      clear HO_9
                      clear BK288
                      clear HB
                      have HO_6 := n0_
                      have HO_9 := n1_
                      have HO321 := n2_
                      have BK288 := n3_
                      have HB := n4_
                      clear n0_ n1_ n2_ n3_ n4_
                      (try clear hb)
                      (try clear hb2)
                      (try clear hk)
                      (try clear hi)
                      (try clear ho0)
                      refine hK.out _ _ ⟨(blk_cell BK288.out 0).trans rfl, (blk_cell BK288.out 1).trans rfl⟩ (fun hHeld => ?_)
                      clear hK K
                      refine norm_ (a' := ?_) ?_ ?_
                      rotate_left
                      · show Act.put _ (some 81) _ = _
                        simp only [Act.put, List.setIfInBounds_toArray, List.set_cons_zero, List.set_cons_succ, i64_w, i32_w]
                        rfl
                      refine one_ (i := 3) (N := some 83) #[true, true, true, true, false, false, false, false, false, false] rfl rfl (one_of HT_.out (by kernel_rfl)) (by decide) (fun K hK => ?_)
                      refine goes_ Try.func25 (by kernel_rfl) rfl #[.agg #[.int .i64 a1_0, .int .i64 a1_1]] (by rfl) rfl rfl (by (try simp only [List.map_toArray, List.map_cons, List.map_nil]); first | done | rfl | (simp only [List.length_drop, List.length_take]; rfl)) ?_
                      with_reducible refine (laws_toAccount.calls a1_0 a1_1 t322 t323 _ A57.out).mono ?_
                      rintro e w64 ⟨rfl, hb⟩
                      refine ⟨_, rfl, ?_⟩
                      have n0_ := Aside0.mk (Kd.R_below (by (with_reducible repeat (first | apply Kd.R_alloc | apply Kd.R_drewN | apply Kd.R_drew)); exact HO_6.out) hb)
                      have n1_ := Aside0.mk (Kd.R_below (by (with_reducible repeat (first | apply Kd.R_alloc | apply Kd.R_drewN | apply Kd.R_drew)); exact HO_9.out) hb)
                      have n2_ := Aside0.mk (Kd.R_below (by (with_reducible repeat (first | apply Kd.R_alloc | apply Kd.R_drewN | apply Kd.R_drew)); exact HO321.out) hb)
                      have n3_ := Aside0.mk (blk_below (g := gb288) (o := .cells #[.int .i64 a1_0, .int .i64 a1_1] 41 (0, 0)) (by (with_reducible repeat (first | refine blk_drewN ?_ _ | refine blk_drew ?_ | refine blk_alloc ?_ _)); exact BK288.out) hb)
                      have n4_ := Aside0.mk (below_step (by repeat (first | (with_reducible first | exact HB.out | apply below_alloc | apply pw_below_drewN | apply below_drew1 | refine below_set ?_ GE288.out) | exact HB.out)) hb)
                      clear HO_6
                      clear HO_9
                      clear HO321
                      clear BK288
                      clear HB
                      have HO_6 := n0_
                      have HO_9 := n1_
                      have HO321 := n2_
                      have BK288 := n3_
                      have HB := n4_
                      clear n0_ n1_ n2_ n3_ n4_
                      (try clear hb)
                      (try clear hb2)
                      (try clear hk)
                      (try clear hi)
                      obtain ⟨Ao65, co65, eo65⟩ := Kd.R_slice HO321.out
                      (first | subst eo65 | (injection eo65 with f1_ f2_ f3_; have f4_ := f1_.symm; have f5_ := f3_.symm; clear f1_ f2_ f3_; subst f4_; subst f5_))
                      refine hK.out _ _ ⟨(blk_cell BK288.out 0).trans rfl, (blk_cell BK288.out 1).trans rfl⟩ (fun hHeld => ?_)
                      clear hK K
                      refine norm_ (a' := ?_) ?_ ?_
                      rotate_left
                      · show Act.put _ (some 83) _ = _
                        simp only [Act.put, List.setIfInBounds_toArray, List.set_cons_zero, List.set_cons_succ, i64_w, i32_w]
                        rfl
                      refine one_ (i := 4) (N := some 84) #[true, true, true, true, true, false, false, false, false, false] rfl rfl (one_of HT_.out (by kernel_rfl)) (by decide) (fun K hK => ?_)
                      refine goes_ Try.func26 (by kernel_rfl) rfl #[.slice Ao65 t319.length co65, .agg #[.int .i64 t322, .int .i64 t323]] (by rfl) rfl rfl (by (try simp only [List.map_toArray, List.map_cons, List.map_nil]); first | done | rfl | (simp only [List.length_drop, List.length_take]; rfl)) ?_
                      with_reducible refine (impl_AccountPut.calls kj36 _ _ t319 t322 t323 t324 t327 _ ?side1 ?side2 A58.out).mono ?_
                      (case side1 => repeat (first | exact (Kd.R_reads' HO321.out).2.2 | (with_reducible refine Kd.C_alloc ?_ _) | (with_reducible refine Kd.C_drewN ?_ _) | (with_reducible refine Kd.C_drew ?_)))
                      (case side2 => exact (Kd.R_reads' HO321.out).2.1)
                      rintro e w66 ⟨v325, rfl, ho0, hb⟩
                      refine ⟨_, rfl, ?_⟩
                      have n0_ := Aside0.mk (Kd.R_elder' (by (with_reducible repeat (first | apply Kd.R_alloc | apply Kd.R_drewN | apply Kd.R_drew)); exact HO_6.out) (Kd.R_base ho0) hb)
                      have n1_ := Aside0.mk (Kd.R_elder' (by (with_reducible repeat (first | apply Kd.R_alloc | apply Kd.R_drewN | apply Kd.R_drew)); exact HO_9.out) (Kd.R_base ho0) hb)
                      have n2_ := Aside0.mk (Kd.R_elder' (by (with_reducible repeat (first | apply Kd.R_alloc | apply Kd.R_drewN | apply Kd.R_drew)); exact HO321.out) (Kd.R_base ho0) hb)
                      have n3_ := Aside0.mk (Kd.R_lower (Kd.R_new' (Kd.R_new' (Kd.R_new' ho0 (Kd.R_lt (by (with_reducible repeat (first | apply Kd.R_alloc | apply Kd.R_drewN | apply Kd.R_drew)); exact HO_6.out))) (Kd.R_lt (by (with_reducible repeat (first | apply Kd.R_alloc | apply Kd.R_drewN | apply Kd.R_drew)); exact HO_9.out))) (Kd.R_lt (by (with_reducible repeat (first | apply Kd.R_alloc | apply Kd.R_drewN | apply Kd.R_drew)); exact HO321.out))) (below_size (by repeat (first | (with_reducible first | exact HB.out | apply below_alloc | apply pw_below_drewN | apply below_drew1 | refine below_set ?_ GE288.out) | exact HB.out))))
                      have n4_ := Aside0.mk (blk_below (g := gb288) (o := .cells #[.int .i64 a1_0, .int .i64 a1_1] 41 (0, 0)) (by (with_reducible repeat (first | refine blk_drewN ?_ _ | refine blk_drew ?_ | refine blk_alloc ?_ _)); exact BK288.out) hb)
                      have n5_ := Aside0.mk (below_step (by repeat (first | (with_reducible first | exact HB.out | apply below_alloc | apply pw_below_drewN | apply below_drew1 | refine below_set ?_ GE288.out) | exact HB.out)) hb)
                      clear HO_6
                      clear HO_9
                      clear HO321
                      clear BK288
                      clear HB
                      have HO_6 := n0_
                      have HO_9 := n1_
                      have HO321 := n2_
                      have HO326 := n3_
                      have BK288 := n4_
                      have HB := n5_
                      clear n0_ n1_ n2_ n3_ n4_ n5_
                      (try clear hb)
                      (try clear hb2)
                      (try clear hk)
                      (try clear hi)
                      (try clear ho0)
                      refine hK.out _ _ ⟨(blk_cell BK288.out 0).trans rfl, (blk_cell BK288.out 1).trans rfl⟩ (fun hHeld => ?_)
                      clear hK K
                      refine norm_ (a' := ?_) ?_ ?_
                      rotate_left
                      · show Act.put _ (some 84) _ = _
                        simp only [Act.put, List.setIfInBounds_toArray, List.set_cons_zero, List.set_cons_succ, i64_w, i32_w]
                        rfl
                      refine pure_ (i := 5) (N := some 79) (v := ?_) (a' := ?_) #[true, true, true, true, true, true, false, false, false, false] rfl rfl (any_of HT_.out (by kernel_rfl)) (fun _ _ _ h => h) (Or.inl ⟨by rfl, ?_⟩) ?_ ?_
                      rotate_left
                      · intro w'
                        go_simp
                        with_reducible rfl
                      rotate_left
                      · simp only [Act.put, List.setIfInBounds_toArray, List.set_cons_zero, List.set_cons_succ, i64_w, i32_w]
                        rfl
                      refine pure_ (i := 6) (N := some 85) (v := ?_) (a' := ?_) #[true, true, true, true, true, true, true, false, false, false] rfl rfl (any_of HT_.out (by kernel_rfl)) (fun _ _ _ h => h) (Or.inl ⟨by rfl, ?_⟩) ?_ ?_
                      rotate_left
                      · intro w'
                        go_simp
                        with_reducible rfl
                      rotate_left
                      · simp only [Act.put, List.setIfInBounds_toArray, List.set_cons_zero, List.set_cons_succ, i64_w, i32_w]
                        rfl
                      refine pure_ (i := 7) (N := some 86) (v := ?_) (a' := ?_) #[true, true, true, true, true, true, true, true, false, false] rfl rfl (any_of HT_.out (by kernel_rfl)) (fun _ _ _ h => h) (Or.inl ⟨by rfl, ?_⟩) ?_ ?_
                      rotate_left
                      · intro w'
                        go_simp
                        with_reducible rfl
                      rotate_left
                      · simp only [Act.put, List.setIfInBounds_toArray, List.set_cons_zero, List.set_cons_succ, i64_w, i32_w]
                        rfl
                      refine pure_ (i := 8) (N := some 14) (v := ?_) (a' := ?_) #[true, true, true, true, true, true, true, true, true, false] rfl rfl (any_of HT_.out (by kernel_rfl)) (fun _ _ _ h => h) (Or.inl ⟨by rfl, ?_⟩) ?_ ?_
                      rotate_left
                      · intro w'
                        go_simp
                        with_reducible rfl
                      rotate_left
                      · simp only [Act.put, List.setIfInBounds_toArray, List.set_cons_zero, List.set_cons_succ, i64_w, i32_w]
                        rfl
                      refine pure_ (i := 9) (N := some 15) (v := ?_) (a' := ?_) #[true, true, true, true, true, true, true, true, true, true] rfl rfl (any_of HT_.out (by kernel_rfl)) (fun _ _ _ h => h) (Or.inl ⟨by rfl, ?_⟩) ?_ ?_
                      rotate_left
                      · intro w'
                        go_simp
                        with_reducible rfl
                      rotate_left
                      · simp only [Act.put, List.setIfInBounds_toArray, List.set_cons_zero, List.set_cons_succ, i64_w, i32_w]
                        rfl
                      refine done_ (done_of HT_.out (by kernel_rfl)) ?_
                      go_upto_region 25 with (fail)
                      go_cut [95] (fun v95 wc => ∃ (kq : Nat) (x95_58 : Bool), v95 = .bool x95_58 ∧ Aside0 (laws_FnExactAccountPut.j2 kq t317 t316 x95_58 = some r) ∧ Aside0 (kq ≤ kj36) ∧ Aside0 (Kd.R k44 44 wc w.heap.size (fun _ => True) (.slice Ao60 t304.length co60) t317) ∧ Aside0 (wc.heap[gb288]? = some (.cells #[.int .i64 a1_0, .int .i64 a1_1] 41 (0, 0))) ∧ Aside0 (Below w.heap.size w wc))
                      case first => as_aux_lemma =>
                        have H := HC59.out
                        clear HC59
                        replace H := Option.bind_eq_some_iff.mp H
                        obtain ⟨t328, A670, H⟩ := H
                        replace H : (if t328 = true then (laws_FnExactAccountPut.j2 kj36 t317 t316 (t327 != t298)) else (laws_FnExactAccountPut.j2 kj36 t317 t316 true)) = some r := H
                        have A67 := Aside0.mk A670
                        clear A670
                        by_cases c68 : t328 = true
                        · as_aux_lemma =>
                          subst c68
                          have H1 : (laws_FnExactAccountPut.j2 kj36 t317 t316 (t327 != t298)) = some r := by rw [if_pos rfl] at H; exact H
                          clear H
                          have H := H1
                          clear H1
                          have H' := Aside0.mk H
                          clear H
                          obtain ⟨Ao69, co69, eo69⟩ := Kd.R_slice HO326.out
                          subst eo69
                          obtain ⟨Ao70, co70, eo70⟩ := Kd.R_slice HO_6.out
                          subst eo70
                          go_wp2_with (first | ((with_reducible refine gate_callee (f := 14) rfl ?_); refine goesL_ (some 89) rfl rfl Try.func14 (by kernel_rfl) rfl #[.slice Ao69 t324.length co69, .slice Ao70 t295.length co70] rfl (by (try simp only [List.map_toArray, List.map_cons, List.map_nil]); first | done | rfl | (simp only [List.length_drop, List.length_take]; rfl)) ?_; (with_reducible refine (laws_eqAccountS.calls kj36 _ _ t324 _ _ t295 true _ ?side1 ?side2 ?side3 ?side4 A67.out).mono ?_); (case side1 => repeat (first | exact (Kd.R_reads' HO326.out).2.2 | (with_reducible refine Kd.C_alloc ?_ _) | (with_reducible refine Kd.C_drewN ?_ _) | (with_reducible refine Kd.C_drew ?_))); (case side2 => exact (Kd.R_reads' HO326.out).2.1); (case side3 => repeat (first | exact (Kd.R_reads' HO_6.out).2.2 | (with_reducible refine Kd.C_alloc ?_ _) | (with_reducible refine Kd.C_drewN ?_ _) | (with_reducible refine Kd.C_drew ?_))); (case side4 => exact (Kd.R_reads' HO_6.out).2.1); rintro e w71 ⟨rfl, hb⟩; refine ⟨_, rfl, ?_⟩; have n0_ := Aside0.mk (Kd.R_below (by (with_reducible repeat (first | apply Kd.R_alloc | apply Kd.R_drewN | apply Kd.R_drew)); exact HO_6.out) hb); have n1_ := Aside0.mk (Kd.R_below (by (with_reducible repeat (first | apply Kd.R_alloc | apply Kd.R_drewN | apply Kd.R_drew)); exact HO_9.out) hb); have n2_ := Aside0.mk (Kd.R_below (by (with_reducible repeat (first | apply Kd.R_alloc | apply Kd.R_drewN | apply Kd.R_drew)); exact HO321.out) hb); have n3_ := Aside0.mk (Kd.R_below (by (with_reducible repeat (first | apply Kd.R_alloc | apply Kd.R_drewN | apply Kd.R_drew)); exact HO326.out) hb); have n4_ := Aside0.mk (blk_below (g := gb288) (o := .cells #[.int .i64 a1_0, .int .i64 a1_1] 41 (0, 0)) (by (with_reducible repeat (first | refine blk_drewN ?_ _ | refine blk_drew ?_ | refine blk_alloc ?_ _)); exact BK288.out) hb); have n5_ := Aside0.mk (below_step (by repeat (first | (with_reducible first | exact HB.out | apply below_alloc | apply pw_below_drewN | apply below_drew1 | refine below_set ?_ GE288.out) | exact HB.out)) hb); clear HO_6; clear HO_9; clear HO321; clear HO326; clear BK288; clear HB; have HO_6 := n0_; have HO_9 := n1_; have HO321 := n2_; have HO326 := n3_; have BK288 := n4_; have HB := n5_; clear n0_ n1_ n2_ n3_ n4_ n5_; (try clear hb); (try clear hb2); (try clear hk); (try clear hi)))
                          go_meet
                          case rel => exact ⟨_, ((t327 != t298)), (by first | rfl | (simp; done) | (simp [*]; done)), H', ⟨by have := HJ11.out; have := HJ36.out; first | omega | exact Nat.le_refl _⟩, ⟨by (with_reducible repeat (first | apply Kd.R_alloc | apply Kd.R_drewN | apply Kd.R_drew)); exact Kd.R_mono HO_9.out (fun _ hk => trivial)⟩, ⟨by (with_reducible repeat (first | refine blk_drewN ?_ _ | refine blk_drew ?_ | refine blk_alloc ?_ _)); exact BK288.out⟩, ⟨by repeat (first | (with_reducible first | exact HB.out | apply below_alloc | apply pw_below_drewN | apply below_drew1 | refine below_set ?_ GE288.out) | exact HB.out)⟩⟩
                        · as_aux_lemma =>
                          replace c68 := Bool.eq_false_iff.mpr c68
                          subst c68
                          have H1 : (laws_FnExactAccountPut.j2 kj36 t317 t316 true) = some r := by rw [if_neg (show ¬ (false = true) by decide)] at H; exact H
                          clear H
                          have H := H1
                          clear H1
                          have H' := Aside0.mk H
                          clear H
                          obtain ⟨Ao72, co72, eo72⟩ := Kd.R_slice HO326.out
                          subst eo72
                          obtain ⟨Ao73, co73, eo73⟩ := Kd.R_slice HO_6.out
                          subst eo73
                          go_wp2_with (first | ((with_reducible refine gate_callee (f := 14) rfl ?_); refine goesL_ (some 89) rfl rfl Try.func14 (by kernel_rfl) rfl #[.slice Ao72 t324.length co72, .slice Ao73 t295.length co73] rfl (by (try simp only [List.map_toArray, List.map_cons, List.map_nil]); first | done | rfl | (simp only [List.length_drop, List.length_take]; rfl)) ?_; (with_reducible refine (laws_eqAccountS.calls kj36 _ _ t324 _ _ t295 false _ ?side1 ?side2 ?side3 ?side4 A67.out).mono ?_); (case side1 => repeat (first | exact (Kd.R_reads' HO326.out).2.2 | (with_reducible refine Kd.C_alloc ?_ _) | (with_reducible refine Kd.C_drewN ?_ _) | (with_reducible refine Kd.C_drew ?_))); (case side2 => exact (Kd.R_reads' HO326.out).2.1); (case side3 => repeat (first | exact (Kd.R_reads' HO_6.out).2.2 | (with_reducible refine Kd.C_alloc ?_ _) | (with_reducible refine Kd.C_drewN ?_ _) | (with_reducible refine Kd.C_drew ?_))); (case side4 => exact (Kd.R_reads' HO_6.out).2.1); rintro e w74 ⟨rfl, hb⟩; refine ⟨_, rfl, ?_⟩; have n0_ := Aside0.mk (Kd.R_below (by (with_reducible repeat (first | apply Kd.R_alloc | apply Kd.R_drewN | apply Kd.R_drew)); exact HO_6.out) hb); have n1_ := Aside0.mk (Kd.R_below (by (with_reducible repeat (first | apply Kd.R_alloc | apply Kd.R_drewN | apply Kd.R_drew)); exact HO_9.out) hb); have n2_ := Aside0.mk (Kd.R_below (by (with_reducible repeat (first | apply Kd.R_alloc | apply Kd.R_drewN | apply Kd.R_drew)); exact HO321.out) hb); have n3_ := Aside0.mk (Kd.R_below (by (with_reducible repeat (first | apply Kd.R_alloc | apply Kd.R_drewN | apply Kd.R_drew)); exact HO326.out) hb); have n4_ := Aside0.mk (blk_below (g := gb288) (o := .cells #[.int .i64 a1_0, .int .i64 a1_1] 41 (0, 0)) (by (with_reducible repeat (first | refine blk_drewN ?_ _ | refine blk_drew ?_ | refine blk_alloc ?_ _)); exact BK288.out) hb); have n5_ := Aside0.mk (below_step (by repeat (first | (with_reducible first | exact HB.out | apply below_alloc | apply pw_below_drewN | apply below_drew1 | refine below_set ?_ GE288.out) | exact HB.out)) hb); clear HO_6; clear HO_9; clear HO321; clear HO326; clear BK288; clear HB; have HO_6 := n0_; have HO_9 := n1_; have HO321 := n2_; have HO326 := n3_; have BK288 := n4_; have HB := n5_; clear n0_ n1_ n2_ n3_ n4_ n5_; (try clear hb); (try clear hb2); (try clear hk); (try clear hi)))
                          go_meet
                          case rel => exact ⟨_, (true), (by first | rfl | (simp; done) | (simp [*]; done)), H', ⟨by have := HJ11.out; have := HJ36.out; first | omega | exact Nat.le_refl _⟩, ⟨by (with_reducible repeat (first | apply Kd.R_alloc | apply Kd.R_drewN | apply Kd.R_drew)); exact Kd.R_mono HO_9.out (fun _ hk => trivial)⟩, ⟨by (with_reducible repeat (first | refine blk_drewN ?_ _ | refine blk_drew ?_ | refine blk_alloc ?_ _)); exact BK288.out⟩, ⟨by repeat (first | (with_reducible first | exact HB.out | apply below_alloc | apply pw_below_drewN | apply below_drew1 | refine below_set ?_ GE288.out) | exact HB.out)⟩⟩
                      case rest => as_aux_lemma =>
                        clear HC59
                        try clear c1
                        try clear c2
                        try clear p2
                        try clear c3
                        try clear c4
                        try clear c4b0
                        try clear c5
                        try clear c6
                        try clear c7
                        try clear c10
                        try clear c12
                        try clear c14
                        try clear c24
                        try clear c25
                        try clear c26
                        try clear c27
                        try clear c28
                        try clear c32
                        try clear c35
                        try clear c42
                        try clear c42b0
                        try clear c44
                        try clear c51
                        try clear c54
                        try clear c54b0
                        try clear c55
                        try clear c55b0
                        try clear c55b1
                        try clear c68
                        try clear hcz20_0
                        try clear hcz20_1
                        try clear hfz20_0
                        try clear hfz20_1
                        try clear p2
                        obtain ⟨kq, x95_58, rfl, HA, HJ58, HO_9, BK288, HB⟩ := hcut
                        have hl9_58 := (Kd.R_reads' HO_9.out).1
                        rw [hl9_58] at HO_9
                        (try simp only [hl9_58])
                        (try simp only [hl9_58] at BK288)
                        cases kq with
                        | zero => exact absurd HA.out (by simp [laws_FnExactAccountPut.j2])
                        | succ kj58 =>
                          have H := HA.out
                          clear HA
                          simp only [laws_FnExactAccountPut.j2] at H
                          by_cases c75 : x95_58 = true
                          · as_aux_lemma =>
                            subst c75
                            have H1 : (none) = some r := by rw [if_pos rfl] at H; exact H
                            clear H
                            have H := H1
                            clear H1
                            exact absurd H (by simp)
                          · as_aux_lemma =>
                            replace c75 := Bool.eq_false_iff.mpr c75
                            subst c75
                            have H1 : ((laws_heldAccountS.f kj58 t317 1).bind fun t329 => (if t329 < 0 then (none) else (if t329 = t316 then (some true) else (none)))) = some r := by rw [if_neg (show ¬ (false = true) by decide)] at H; exact H
                            clear H
                            have H := H1
                            clear H1
                            replace H := Option.bind_eq_some_iff.mp H
                            obtain ⟨t329, A760, H⟩ := H
                            replace H : (if t329 < 0 then (none) else (if t329 = t316 then (some true) else (none))) = some r := H
                            have A76 := Aside0.mk A760
                            clear A760
                            by_cases c77 : t329 < 0
                            · as_aux_lemma =>
                              rw [if_pos c77] at H
                              exact absurd H (by simp)
                            · as_aux_lemma =>
                              rw [if_neg c77] at H
                              have c77b0 : decide (t329 < 0) = false := decide_eq_false c77
                              clear c77
                              by_cases c78 : t329 = t316
                              · as_aux_lemma =>
                                rw [if_pos c78] at H
                                have c78b0 : (t329 == t316) = true := beq_iff_eq.mpr c78
                                have c78b1 : (t329 != t316) = false := bne_eq_false_iff_eq.mpr c78
                                clear c78
                                obtain rfl := Option.some.inj H
                                go_wp2_with (first | ((with_reducible refine gate_callee (f := 28) rfl ?_); refine goesL_ (some 98) rfl rfl Try.func28 (by kernel_rfl) rfl #[.slice Ao60 t317.length co60, .int .i64 1] rfl (by (try simp only [List.map_toArray, List.map_cons, List.map_nil]); first | done | rfl | (simp only [List.length_drop, List.length_take]; rfl)) ?_; (with_reducible refine (laws_heldAccountS.calls kj58 _ _ t317 1 t329 _ ?side1 ?side2 A76.out).mono ?_); (case side1 => repeat (first | exact (Kd.R_reads' HO_9.out).2.2 | (with_reducible refine Kd.C_alloc ?_ _) | (with_reducible refine Kd.C_drewN ?_ _) | (with_reducible refine Kd.C_drew ?_))); (case side2 => exact (Kd.R_reads' HO_9.out).2.1); rintro e w' ⟨rfl, ⟨nd, rfl⟩⟩; refine ⟨_, rfl, ?_⟩))
                                go_ret
                                exact ⟨by first | rfl | (simp [errW_none, errW_some] <;> rfl) | (simp [*, errW_none, errW_some] <;> rfl), by repeat (first | (with_reducible first | exact HB.out | apply below_alloc | apply pw_below_drewN | apply below_drew1 | refine below_set ?_ GE288.out) | exact HB.out)⟩
                              · as_aux_lemma =>
                                rw [if_neg c78] at H
                                exact absurd H (by simp)
                    · as_aux_lemma =>
                      rw [if_neg c55] at H
                      exact absurd H (by simp)
          · as_aux_lemma =>
            replace c35 := Bool.eq_false_iff.mpr c35
            subst c35
            have H1 : (none) = some r := by rw [if_neg (show ¬ (false = true) by decide)] at H; exact H
            clear H
            have H := H1
            clear H1
            exact absurd H (by simp)
end Go.Proofs.Ytnfoldoeligfhaa.P
namespace Go.Proofs.Ytnfoldoeligfhaa.EV
open Go Go.RowKit Go.Proofs.YtnfoldoeligfhaaW.PrintWords
theorem w64_in (n : Int) (h0 : -9223372036854775808 ≤ n) (h1 : n ≤ 9223372036854775807) : wrap64 n = n := by unfold wrap64; omega
theorem w_succ {i n : Nat} (h : i < n) (hn : n ≤ 9223372036854775807) : wrap64 ((i : Int) + 1) = ((i + 1 : Nat) : Int) := by unfold wrap64; omega
theorem w_pred {i n : Nat} (h : i < n) (hp : 0 < i) (hn : n ≤ 9223372036854775807) : wrap64 ((i : Int) - 1) = ((i - 1 : Nat) : Int) := by unfold wrap64; omega
theorem Ev_one {α : Type} {g : Nat → Option α} {r : α} (h : ∀ k, g (k + 1) = some r) : Ev g r := ⟨1, fun k hk => by
  obtain ⟨k, rfl⟩ : ∃ m, k = m + 1 := ⟨k - 1, by omega⟩
  exact h k⟩
theorem Ev_all_k {α : Type} {g : Nat → Option α} {r : α} (h : ∀ k, g k = some r) : Ev g r := ⟨0, fun k _ => h k⟩
theorem Ev_bind {α β : Type} {g : Nat → Option α} {f : Nat → α → Option β} {a : α} {r : β} (h : Ev g a) (k : Ev (fun n => f n a) r) : Ev (fun n => (g n).bind (f n)) r := Ev.bind h k
theorem Ev_asks (l : Nat → Int → Option Bool) (n : Nat) (G : Nat → Prop) (fin : Bool) (h0 : Ev (fun k => l k (n : Int)) fin)
    (hs : ∀ i : Nat, i < n → (G i ∧ ∀ k, l (k + 1) (i : Int) = l k ((i + 1 : Nat) : Int)) ∨ (¬ G i ∧ ∀ k, l (k + 1) (i : Int) = some false)) :
    ∀ (d i : Nat), n - i = d → i ≤ n → ∃ r, Ev (fun k => l k (i : Int)) r ∧ (r = true ↔ (∀ j, i ≤ j → j < n → G j) ∧ fin = true) := by
  intro d
  induction d with
  | zero =>
    intro i hd hi
    obtain rfl : i = n := by omega
    exact ⟨fin, h0, ⟨fun h => ⟨fun j h1 h2 => by omega, h⟩, fun h => h.2⟩⟩
  | succ d ih =>
    intro i hd hi
    rcases hs i (by omega) with ⟨hg, he⟩ | ⟨hg, he⟩
    · obtain ⟨r, hr, hiff⟩ := ih (i + 1) (by omega) (by omega)
      refine ⟨r, Ev.step he hr, ?_⟩
      rw [hiff]
      constructor
      · rintro ⟨h1, h2⟩
        refine ⟨fun j h3 h4 => ?_, h2⟩
        rcases Nat.eq_or_lt_of_le h3 with h5 | h5
        · exact h5 ▸ hg
        · exact h1 j h5 h4
      · rintro ⟨h1, h2⟩
        exact ⟨fun j h3 h4 => h1 j (by omega) h4, h2⟩
    · refine ⟨false, Ev_one he, ⟨fun h => Bool.noConfusion h, fun h => absurd (h.1 i (Nat.le_refl _) (by omega)) hg⟩⟩
theorem Ev_goes {σ ρ : Type} (l : Nat → σ → Int → Option ρ) (n : Nat) (F : Nat → σ → ρ) (Inv : Nat → σ → Prop)
    (h0 : ∀ s, Inv n s → Ev (fun k => l k s (n : Int)) (F n s))
    (hs : ∀ (i : Nat) s, i < n → Inv i s → (Ev (fun k => l k s (i : Int)) (F i s)) ∨ ∃ s', Inv (i + 1) s' ∧ F (i + 1) s' = F i s ∧ ∀ k, l (k + 1) s (i : Int) = l k s' ((i + 1 : Nat) : Int)) :
    ∀ (d i : Nat) s, n - i = d → i ≤ n → Inv i s → Ev (fun k => l k s (i : Int)) (F i s) := by
  intro d
  induction d with
  | zero =>
    intro i s hd hi hinv
    obtain rfl : i = n := by omega
    exact h0 s hinv
  | succ d ih =>
    intro i s hd hi hinv
    rcases hs i s (by omega) hinv with h | ⟨s', h1, h2, h3⟩
    · exact h
    · exact h2 ▸ Ev.step h3 (ih (i + 1) s' (by omega) (by omega) h1)
theorem drop_getD {α : Type} (z : α) (l : List α) (i : Nat) (h : i < l.length) : l.drop i = l.getD i z :: l.drop (i + 1) := by
  rw [List.drop_eq_getElem_cons h, List.getD_eq_getElem?_getD, List.getElem?_eq_getElem h]
  rfl
theorem getD_set {α : Type} (l : List α) (i j : Nat) (x z : α) : (l.set i x).getD j z = if i = j ∧ j < l.length then x else l.getD j z := by
  rw [List.getD_eq_getElem?_getD, List.getElem?_set, List.getD_eq_getElem?_getD]
  by_cases h : i = j
  · subst h
    by_cases h2 : i < l.length
    · simp [h2]
    · simp [h2]
  · simp [h]
theorem ext_getD {α : Type} (z : α) {a b : List α} (hl : a.length = b.length) (h : ∀ i, i < a.length → a.getD i z = b.getD i z) : a = b := by
  apply List.ext_getElem hl
  intro i h1 h2
  have := h i h1
  rw [List.getD_eq_getElem?_getD, List.getD_eq_getElem?_getD, List.getElem?_eq_getElem h1, List.getElem?_eq_getElem h2] at this
  simpa using this
end Go.Proofs.Ytnfoldoeligfhaa.EV
namespace Go.Proofs.Ytnfoldoeligfhaa.I1
open Go Go.RowKit Go.Proofs.Ytnfoldoeligfhaa.P Go.Proofs.YtnfoldoeligfhaaW.PrintWords Go.Proofs.YtnfoldoeligfhaaW.PrintLast
theorem in_i (a lo hi : Int) : impl_in.f a lo hi = some (decide (lo ≤ a ∧ a ≤ hi)) := by
  unfold impl_in.f
  by_cases h : a ≥ lo
  · rw [if_pos h]
    congr 1
    rw [Bool.eq_iff_iff, decide_eq_true_iff, decide_eq_true_iff]
    omega
  · rw [if_neg h]
    congr 1
    symm
    rw [decide_eq_false_iff_not]
    omega
theorem in_s (a lo hi : Int) : spec_l1In.f a lo hi = some (decide (lo ≤ a ∧ a ≤ hi)) := by
  unfold spec_l1In.f
  by_cases h : a ≥ lo
  · rw [if_pos h]
    congr 1
    rw [Bool.eq_iff_iff, decide_eq_true_iff, decide_eq_true_iff]
    omega
  · rw [if_neg h]
    congr 1
    symm
    rw [decide_eq_false_iff_not]
    omega
end Go.Proofs.Ytnfoldoeligfhaa.I1
namespace Go.Proofs.Ytnfoldoeligfhaa.C1
open Go Go.RowKit Go.Proofs.Ytnfoldoeligfhaa.P Go.Proofs.YtnfoldoeligfhaaW.PrintWords Go.Proofs.YtnfoldoeligfhaaW.PrintLast Go.Proofs.Ytnfoldoeligfhaa.EV Go.Proofs.Ytnfoldoeligfhaa.I1
theorem no_s (a : Int) : spec_l3No.f a = some (decide (1 ≤ a ∧ a ≤ 1000)) := by unfold spec_l3No.f; rw [in_s]; rfl
theorem no_i (a : Int) : impl_isNo.f a = some (decide (1 ≤ a ∧ a ≤ 1000)) := by unfold impl_isNo.f; rw [in_i]; rfl
def GoodA (l : List S44) (j : Nat) : Prop :=
  (1 ≤ (l.getD j z44).f0 ∧ (l.getD j z44).f0 ≤ 1000) ∧ (1 ≤ (l.getD j z44).f1 ∧ (l.getD j z44).f1 ≤ 4) ∧ (0 < j → (l.getD (j - 1) z44).f0 < (l.getD j z44).f0)
def OkA (l : List S44) : Prop := l.length ≤ 20 ∧ ∀ j, j < l.length → GoodA l j
noncomputable def okA (l : List S44) : Bool := @decide (OkA l) (Classical.propDecidable _)
theorem okA_iff (l : List S44) : okA l = true ↔ OkA l := by unfold okA; exact @decide_eq_true_iff _ (Classical.propDecidable _)
theorem rdA (l : List S44) (i : Nat) : rd_T44 l (i : Int) = l.getD i z44 := by unfold rd_T44; rw [Int.toNat_natCast]
theorem accountsOk_s (l : List S44) : Ev (fun k => spec_AccountsOk.f k l) (okA l) := by
  unfold spec_AccountsOk.f
  by_cases hn : (l.length : Int) > 20
  · have : okA l = false := by
      rw [Bool.eq_false_iff, Ne, okA_iff]
      intro h
      have := h.1
      omega
    rw [this]
    exact Ev_all_k fun k => by rw [if_pos hn]
  · obtain ⟨r, hr, hiff⟩ := Ev_asks (fun k i => spec_AccountsOk.l0 k l i) l.length (GoodA l) true
      (Ev_one fun k => by simp only [spec_AccountsOk.l0]; rw [if_neg (by omega)])
      (fun i hi => by
        have e : ∀ k, spec_AccountsOk.l0 (k + 1) l (i : Int) = if (1 ≤ (l.getD i z44).f0 ∧ (l.getD i z44).f0 ≤ 1000) then (if (1 ≤ (l.getD i z44).f1 ∧ (l.getD i z44).f1 ≤ 4) then (if 0 < i then (if (l.getD (i - 1) z44).f0 < (l.getD i z44).f0 then spec_AccountsOk.l0 k l ((i + 1 : Nat) : Int) else some false) else spec_AccountsOk.l0 k l ((i + 1 : Nat) : Int)) else some false) else some false := by
          intro k
          simp only [spec_AccountsOk.l0]
          rw [if_pos (by omega), if_pos (by omega)]
          rw [w_succ hi (by omega)]
          by_cases h0 : 0 < i
          · rw [w_pred hi h0 (by omega)]
            simp only [no_s, in_s, Option.bind_some, decide_eq_true_iff, rdA]
            split
            · split
              · rw [if_pos (by omega), if_pos (by omega), if_pos (by omega)]
                split
                · rw [if_neg (by omega)]
                · rw [if_pos (by omega)]
              · rfl
            · rfl
          · simp only [no_s, in_s, Option.bind_some, decide_eq_true_iff, rdA]
            split
            · split
              · rw [if_neg (by omega)]
              · rfl
            · rfl
        by_cases hg : GoodA l i
        · refine .inl ⟨hg, fun k => ?_⟩
          show spec_AccountsOk.l0 (k + 1) l (i : Int) = _
          rw [e k, if_pos hg.1, if_pos hg.2.1]
          split
          · rename_i h0
            rw [if_pos (hg.2.2 h0)]
          · rfl
        · refine .inr ⟨hg, fun k => ?_⟩
          show spec_AccountsOk.l0 (k + 1) l (i : Int) = _
          rw [e k]
          unfold GoodA at hg
          split
          · rename_i h1
            split
            · rename_i h2
              split
              · rename_i h3
                rw [if_neg (fun h4 => hg ⟨h1, h2, fun _ => h4⟩)]
              · rename_i h3
                exact absurd ⟨h1, h2, fun h4 => absurd h4 h3⟩ hg
            · rfl
          · rfl) l.length 0 (by omega) (by omega)
    have hq : r = okA l := by
      rw [Bool.eq_iff_iff, hiff, okA_iff]
      exact ⟨fun h => ⟨by omega, fun j hj => h.1 j (Nat.zero_le _) hj⟩, fun h => ⟨fun j _ hj => h.2 j hj, rfl⟩⟩
    subst hq
    exact Ev.congr (fun k => by rw [if_neg hn]; rfl) hr
theorem accountsOk_i (l : List S44) (hm : l.length ≤ 9223372036854775807) : Ev (fun k => impl_AccountsOk.f k l) (okA l) := by
  unfold impl_AccountsOk.f
  obtain ⟨r, hr, hiff⟩ := Ev_asks (fun k i => impl_AccountsOk.l0 k l l (l.length : Int) i) l.length (GoodA l) (decide ((l.length : Int) ≤ 20))
      (Ev_one fun k => by simp only [impl_AccountsOk.l0]; rw [if_neg (by omega)])
      (fun i hi => by
        have e : ∀ k, impl_AccountsOk.l0 (k + 1) l l (l.length : Int) (i : Int) = if (1 ≤ (l.getD i z44).f0 ∧ (l.getD i z44).f0 ≤ 1000) then (if (1 ≤ (l.getD i z44).f1 ∧ (l.getD i z44).f1 ≤ 4) then (if 0 < i then (if (l.getD (i - 1) z44).f0 < (l.getD i z44).f0 then impl_AccountsOk.l0 k l l (l.length : Int) ((i + 1 : Nat) : Int) else some false) else impl_AccountsOk.l0 k l l (l.length : Int) ((i + 1 : Nat) : Int)) else some false) else some false := by
          intro k
          simp only [impl_AccountsOk.l0]
          rw [if_pos (by omega), if_pos (by omega), if_pos (by omega)]
          rw [w_succ hi (by omega)]
          by_cases h0 : 0 < i
          · rw [w_pred hi h0 (by omega)]
            simp only [no_i, in_i, Option.bind_some, decide_eq_true_iff, rdA]
            split
            · split
              · rw [if_pos (by omega), if_pos (by omega), if_pos (by omega)]
                split
                · rw [if_neg (by omega)]
                · rw [if_pos (by omega)]
              · rfl
            · rfl
          · simp only [no_i, in_i, Option.bind_some, decide_eq_true_iff, rdA]
            split
            · split
              · rw [if_neg (by omega)]
              · rfl
            · rfl
        by_cases hg : GoodA l i
        · refine .inl ⟨hg, fun k => ?_⟩
          show impl_AccountsOk.l0 (k + 1) l l (l.length : Int) (i : Int) = _
          rw [e k, if_pos hg.1, if_pos hg.2.1]
          split
          · rename_i h0
            rw [if_pos (hg.2.2 h0)]
          · rfl
        · refine .inr ⟨hg, fun k => ?_⟩
          show impl_AccountsOk.l0 (k + 1) l l (l.length : Int) (i : Int) = _
          rw [e k]
          unfold GoodA at hg
          split
          · rename_i h1
            split
            · rename_i h2
              split
              · rename_i h3
                rw [if_neg (fun h4 => hg ⟨h1, h2, fun _ => h4⟩)]
              · rename_i h3
                exact absurd ⟨h1, h2, fun h4 => absurd h4 h3⟩ hg
            · rfl
          · rfl) l.length 0 (by omega) (by omega)
  have hq : r = okA l := by
    rw [Bool.eq_iff_iff, hiff, okA_iff, decide_eq_true_iff]
    exact ⟨fun h => ⟨by omega, fun j hj => h.1 j (Nat.zero_le _) hj⟩, fun h => ⟨fun j _ hj => h.2 j hj, by have := h.1; omega⟩⟩
  subst hq
  exact hr
end Go.Proofs.Ytnfoldoeligfhaa.C1
namespace Go.Proofs.Ytnfoldoeligfhaa.P1
open Go Go.RowKit Go.Proofs.Ytnfoldoeligfhaa.P Go.Proofs.YtnfoldoeligfhaaW.PrintWords Go.Proofs.YtnfoldoeligfhaaW.PrintLast Go.Proofs.Ytnfoldoeligfhaa.EV Go.Proofs.Ytnfoldoeligfhaa.I1 Go.Proofs.Ytnfoldoeligfhaa.C1
theorem take_getD {α : Type} (z : α) (l : List α) (i : Nat) (h : i < l.length) : l.take (i + 1) = l.take i ++ [l.getD i z] := by
  rw [List.take_add_one, List.getD_eq_getElem?_getD, List.getElem?_eq_getElem h]
  rfl
def posA : List S44 → Int → Nat
  | [], _ => 0
  | x :: l, no => if x.f0 < no then posA l no + 1 else 0
theorem posA_le : ∀ (l : List S44) (no : Int), posA l no ≤ l.length
  | [], _ => Nat.le_refl 0
  | x :: l, no => by
    have := posA_le l no
    unfold posA
    rw [List.length_cons]
    split <;> omega
theorem posA_lt : ∀ (l : List S44) (no : Int) (i : Nat), i < posA l no → (l.getD i z44).f0 < no
  | [], _, i, h => absurd h (Nat.not_lt_zero _)
  | x :: l, no, i, h => by
    unfold posA at h
    split at h
    · rename_i hx
      cases i with
      | zero => exact hx
      | succ i => exact posA_lt l no i (by omega)
    · exact absurd h (Nat.not_lt_zero _)
theorem posA_at : ∀ (l : List S44) (no : Int), posA l no < l.length → ¬ (l.getD (posA l no) z44).f0 < no
  | [], _, h => absurd h (Nat.not_lt_zero _)
  | x :: l, no, h => by
    unfold posA at h ⊢
    split
    · rename_i hx
      rw [if_pos hx, List.length_cons] at h
      exact posA_at l no (by omega)
    · rename_i hx
      exact hx
def insA (l : List S44) (a : S44) : List S44 := l.take (posA l a.f0) ++ [a] ++ l.drop (posA l a.f0)
theorem insA_len (l : List S44) (a : S44) : (insA l a).length = l.length + 1 := by
  have := posA_le l a.f0
  unfold insA
  simp
  omega
noncomputable def putA (l : List S44) (a : S44) : List S44 × Bool := if okA l = true then (if okA (insA l a) = true then (insA l a, true) else (l, false)) else ([], false)
theorem putA_i (l : List S44) (a : S44) (hm : l.length ≤ 1048576) : Ev (fun k => impl_AccountPut.f k l a.f0 a.f1) (putA l a) := by
  unfold impl_AccountPut.f putA
  refine Ev_bind (accountsOk_i l (by omega)) ?_
  cases okA l with
  | false => exact Ev_all_k fun k => by rw [if_neg (by decide), if_neg (by decide)]
  | true =>
    refine Ev.congr (fun k => if_pos rfl) ?_
    rw [if_pos rfl]
    have hp := posA_le l a.f0
    have hcl : ∀ x : List S44, x.length ≤ 1048577 → impl_Account_46.f x = some x := fun x hx => by
      unfold impl_Account_46.f
      rw [Option.bind_some, List.length_nil, if_pos (by omega), List.nil_append]
    have hend : Ev (fun k => impl_AccountPut.j1 k l ((posA l a.f0 : Nat) : Int) a.f0 a.f1) (if okA (insA l a) = true then (insA l a, true) else (l, false)) := by
      refine Ev.step (f := fun k => (impl_AccountsOk.f k (insA l a)).bind fun t => (if t = true then (some (insA l a, true)) else (some (l, false)))) (fun k => ?_) ?_
      · simp only [impl_AccountPut.j1]
        rw [hcl l (by omega), Option.bind_some]
        unfold impl_Account_45.f
        rw [if_pos ⟨by omega, by omega, rfl, by omega⟩, Option.bind_some, Int.toNat_natCast]
        rfl
      · refine Ev_bind (accountsOk_i _ (by rw [insA_len]; omega)) ?_
        exact Ev_all_k fun k => by cases okA (insA l a) <;> rfl
    exact Ev_goes (fun k (_ : Unit) i => impl_AccountPut.l0 k l i a.f0 a.f1) (posA l a.f0) (fun _ _ => if okA (insA l a) = true then (insA l a, true) else (l, false)) (fun _ _ => True)
      (fun s _ => by
        refine Ev.step (f := fun k => impl_AccountPut.j1 k l ((posA l a.f0 : Nat) : Int) a.f0 a.f1) (fun k => ?_) hend
        show impl_AccountPut.l0 (k + 1) l _ a.f0 a.f1 = _
        simp only [impl_AccountPut.l0]
        by_cases h : posA l a.f0 < l.length
        · rw [if_pos (by omega), if_pos (by omega), rdA, if_neg (posA_at l a.f0 h)]
        · rw [if_neg (by omega)])
      (fun i s hi _ => .inr ⟨(), trivial, rfl, fun k => by
        show impl_AccountPut.l0 (k + 1) l (i : Int) a.f0 a.f1 = _
        simp only [impl_AccountPut.l0]
        rw [if_pos (by omega), if_pos (by omega), rdA, if_pos (posA_lt l a.f0 i hi), w_succ (n := l.length) (by omega) (by omega)]⟩) (posA l a.f0) 0 () (by omega) (by omega) trivial
theorem putA_s (l : List S44) (a : S44) (hm : l.length ≤ 1048576) : Ev (fun k => spec_AccountPut.f k l a.f0 a.f1) (putA l a) := by
  unfold spec_AccountPut.f putA
  refine Ev_bind (accountsOk_s l) ?_
  cases okA l with
  | false => exact Ev_all_k fun k => by rw [if_neg (by decide), if_neg (by decide)]
  | true =>
    refine Ev.congr (fun k => if_pos rfl) ?_
    rw [if_pos rfl]
    have hp := posA_le l a.f0
    exact Ev_goes (fun k (s : List S44 × Bool) i => spec_AccountPut.l0 k l s.1 s.2 i a.f0 a.f1) l.length (fun _ _ => if okA (insA l a) = true then (insA l a, true) else (l, false))
      (fun i s => s = if i ≤ posA l a.f0 then (l.take i, false) else (l.take (posA l a.f0) ++ [a] ++ (l.drop (posA l a.f0)).take (i - posA l a.f0), true))
      (fun s hs => by
        by_cases h : l.length ≤ posA l a.f0
        · rw [if_pos h] at hs
          subst hs
          have e : insA l a = l ++ [a] := by
            unfold insA
            rw [show posA l a.f0 = l.length by omega, List.take_length, List.drop_length, List.append_nil]
          refine Ev.step (f := fun k => (spec_AccountsOk.f k (insA l a)).bind fun t => (if t = true then (some (insA l a, true)) else (some (l, false)))) (fun k => ?_) (Ev_bind (accountsOk_s _) (Ev_all_k fun k => by cases okA (insA l a) <;> rfl))
          show spec_AccountPut.l0 (k + 1) l (l.take l.length) false (l.length : Int) a.f0 a.f1 = _
          rw [List.take_length]
          simp only [spec_AccountPut.l0]
          rw [if_neg (by omega), if_neg (by decide), if_pos (by omega), Option.bind_some]
          simp only [Option.bind_some, List.length_nil, List.nil_append]
          rw [if_pos (show 0 + l.length < 8796093022208 by omega), e]
        · rw [if_neg h] at hs
          subst hs
          have e : l.take (posA l a.f0) ++ [a] ++ (l.drop (posA l a.f0)).take (l.length - posA l a.f0) = insA l a := by
            unfold insA
            rw [List.take_of_length_le (l := l.drop (posA l a.f0)) (by rw [List.length_drop]; exact Nat.le_refl _)]
          refine Ev.step (f := fun k => (spec_AccountsOk.f k (insA l a)).bind fun t => (if t = true then (some (insA l a, true)) else (some (l, false)))) (fun k => ?_) (Ev_bind (accountsOk_s _) (Ev_all_k fun k => by cases okA (insA l a) <;> rfl))
          show spec_AccountPut.l0 (k + 1) l (l.take (posA l a.f0) ++ [a] ++ (l.drop (posA l a.f0)).take (l.length - posA l a.f0)) true (l.length : Int) a.f0 a.f1 = _
          rw [e]
          simp only [spec_AccountPut.l0]
          rw [if_neg (by omega), if_pos trivial]
          simp only [Option.bind_some, List.length_nil, List.nil_append]
          rw [if_pos (show 0 + l.length < 8796093022208 by omega)])
      (fun i s hi hs => by
        refine .inr ⟨_, rfl, rfl, fun k => ?_⟩
        by_cases h1 : i < posA l a.f0
        · rw [if_pos (by omega)] at hs
          subst hs
          rw [if_pos (by omega), take_getD z44 l i hi]
          show spec_AccountPut.l0 (k + 1) l (l.take i) false (i : Int) a.f0 a.f1 = _
          have := posA_lt l a.f0 i h1
          simp only [spec_AccountPut.l0]
          rw [if_pos (by omega), if_neg (by decide), if_pos (by omega), rdA, if_neg (by omega), if_pos (by rw [List.length_take]; omega), w_succ hi (by omega)]
        · by_cases h2 : i = posA l a.f0
          · rw [if_pos (by omega)] at hs
            subst hs
            have h3 := posA_at l a.f0 (by omega)
            rw [← h2] at h3
            rw [if_neg (by omega), ← h2, show i + 1 - i = 0 + 1 by omega, drop_getD z44 l i hi, List.take_succ_cons, List.take_zero]
            show spec_AccountPut.l0 (k + 1) l (l.take i) false (i : Int) a.f0 a.f1 = _
            simp only [spec_AccountPut.l0]
            rw [if_pos (by omega), if_neg (by decide), if_pos (by omega), rdA, if_pos (by omega), if_pos (by rw [List.length_take]; omega), Option.bind_some, if_pos (by simp; omega), w_succ hi (by omega)]
          · rw [if_neg (by omega)] at hs
            subst hs
            have hg : ((l.drop (posA l a.f0)).take (i + 1 - posA l a.f0)) = (l.drop (posA l a.f0)).take (i - posA l a.f0) ++ [l.getD i z44] := by
              rw [show i + 1 - posA l a.f0 = (i - posA l a.f0) + 1 by omega, take_getD z44 _ _ (by rw [List.length_drop]; omega)]
              congr 2
              rw [List.getD_eq_getElem?_getD, List.getElem?_drop, List.getD_eq_getElem?_getD]
              congr 2
              omega
            rw [if_neg (by omega), hg]
            show spec_AccountPut.l0 (k + 1) l (l.take (posA l a.f0) ++ [a] ++ (l.drop (posA l a.f0)).take (i - posA l a.f0)) true (i : Int) a.f0 a.f1 = _
            simp only [spec_AccountPut.l0]
            rw [if_pos (by omega), if_pos trivial, if_pos (by omega), if_pos (by simp; omega), rdA, w_succ hi (by omega), List.append_assoc _ _ [l.getD i z44]]) l.length 0 ([], false) (by omega) (by omega) (by rw [if_pos (by omega)]; rfl)
end Go.Proofs.Ytnfoldoeligfhaa.P1
namespace Go.Proofs.Ytnfoldoeligfhaa.T1
open Go Go.RowKit Go.Proofs.Ytnfoldoeligfhaa.P Go.Proofs.YtnfoldoeligfhaaW.PrintWords Go.Proofs.YtnfoldoeligfhaaW.PrintLast Go.Proofs.Ytnfoldoeligfhaa.EV
def cvAccount (x : S41) : S44 := ⟨x.f0, x.f1⟩
theorem sz_Account  (l : List S41) (left : Int) (h0 : 0 ≤ left) (h1 : left ≤ 1048576) (hm : l.length ≤ 9223372036854775807) : laws_szAccountS.f l left = some (if left < (l.length : Int) then -1 else left - l.length) := by
  unfold laws_szAccountS.f
  rw [w64_in _ (by omega) (by omega)]
  by_cases h : left < (l.length : Int)
  · rw [if_pos h, if_pos (by omega)]
  · rw [if_neg h, if_neg (by omega)]
theorem rd1_Account (l : List S41) (i : Nat) : rd_T41 l (i : Int) = l.getD i z41 := by unfold rd_T41; rw [Int.toNat_natCast]
theorem to_Account  (l : List S41) (hl : l.length ≤ 1048576) : Ev (fun k => laws_toAccountS.f k l) (l.map cvAccount) := by
  unfold laws_toAccountS.f
  have h := Ev_goes (fun k s i => laws_toAccountS.l0 k l s i) l.length (fun i s => s.take i ++ (l.drop i).map cvAccount) (fun i s => s.length = l.length)
    (fun s hs => Ev_one fun k => by
      simp only [laws_toAccountS.l0]
      rw [if_neg (by omega), List.drop_length, List.map_nil, List.append_nil, ← hs, List.take_length])
    (fun i s hi hs => .inr ⟨s.set i (cvAccount (l.getD i z41)), by rw [List.length_set]; exact hs, by
        rw [List.take_add_one, List.take_set_of_le (Nat.le_refl i), List.getElem?_set_self (by omega), List.drop_eq_getElem_cons hi, List.map_cons]
        have : l.getD i z41 = l[i] := by rw [List.getD_eq_getElem?_getD, List.getElem?_eq_getElem hi]; rfl
        rw [this]
        simp, fun k => by
        show laws_toAccountS.l0 (k + 1) l s (i : Int) = _
        simp only [laws_toAccountS.l0]
        rw [if_pos (by omega), if_pos (by omega), w_succ hi (by omega)]
        simp only [laws_toAccount.f, Option.bind_some, rd1_Account]
        rw [if_pos (by omega)]
        simp only [Int.toNat_natCast]
        rfl⟩) l.length 0 (List.replicate l.length z44) (by omega) (by omega) (by simp)
  refine Ev.congr (fun k => ?_) h
  rw [if_pos (by omega), if_pos (by omega)]
  rfl
theorem eq1_Account (x : S44) : laws_eqAccount.f x.f0 x.f1 x.f0 x.f1 = some true := by unfold laws_eqAccount.f; simp
theorem eq_Account (l : List S44) (hl : l.length ≤ 9223372036854775807) : Ev (fun k => laws_eqAccountS.f k l l) true := by
  unfold laws_eqAccountS.f
  obtain ⟨r, hr, hiff⟩ := Ev_asks (fun k i => laws_eqAccountS.l0 k l l i) l.length (fun _ => True) true
    (Ev_one fun k => by simp only [laws_eqAccountS.l0]; rw [if_neg (by omega)])
    (fun i hi => .inl ⟨trivial, fun k => by
      show laws_eqAccountS.l0 (k + 1) l l (i : Int) = _
      simp only [laws_eqAccountS.l0]
      rw [if_pos (by omega), if_pos (by omega), if_pos (by omega), w_succ hi (by omega)]
      simp only [eq1_Account, Option.bind_some, if_true]⟩) l.length 0 (by omega) (by omega)
  obtain rfl : r = true := hiff.2 ⟨fun _ _ _ => trivial, rfl⟩
  refine Ev.congr (fun k => ?_) hr
  rw [if_pos rfl]
  rfl
end Go.Proofs.Ytnfoldoeligfhaa.T1
namespace Go.Proofs.Ytnfoldoeligfhaa.M1
open Go Go.RowKit Go.Proofs.Ytnfoldoeligfhaa.P Go.Proofs.YtnfoldoeligfhaaW.PrintWords Go.Proofs.YtnfoldoeligfhaaW.PrintLast Go.Proofs.Ytnfoldoeligfhaa.EV
theorem set_set_getD {α : Type} (l : List α) (i : Nat) (x z : α) (h : i < l.length) : (l.set i x).getD i z = x := by rw [getD_set, if_pos ⟨rfl, h⟩]
theorem set_set_eq {α : Type} (l : List α) (i : Nat) (x y : α) : (l.set i x).set i y = l.set i y := List.set_set ..
def mkAccount (c : Int) (n : Nat) : List S44 := (List.range n).map fun (j : Nat) => (⟨c + 2 * (j : Int), c + 2 * (j : Int) + 1⟩ : S44)
theorem mkAccount_len (c : Int) (n : Nat) : (mkAccount c n).length = n := by unfold mkAccount; simp
theorem mkAccount_at (c : Int) (n j : Nat) (h : j < n) : (mkAccount c n).getD j z44 = ⟨c + 2 * (j : Int), c + 2 * (j : Int) + 1⟩ := by
  unfold mkAccount
  rw [List.getD_eq_getElem?_getD, List.getElem?_map, List.getElem?_range h]
  rfl
theorem rdM_Account (l : List S44) (i : Nat) : rd_T44 l (i : Int) = l.getD i z44 := by unfold rd_T44; rw [Int.toNat_natCast]
theorem mark_Account (l : List S44) (c : Int) (h0 : 0 ≤ c) (h1 : c ≤ 1000000000000) (hl : l.length ≤ 1048577) : Ev (fun k => laws_markAccountS.f k l c) (c + 2 * (l.length : Int), mkAccount c l.length) := by
  unfold laws_markAccountS.f
  have h := Ev_goes (fun k (s : List S44 × Int) i => laws_markAccountS.l0 k s.1 s.2 i) l.length (fun _ _ => (c + 2 * (l.length : Int), mkAccount c l.length)) (fun i s => s.1.length = l.length ∧ s.2 = c + 2 * (i : Int) ∧ ∀ j, j < i → s.1.getD j z44 = ⟨c + 2 * (j : Int), c + 2 * (j : Int) + 1⟩)
    (fun s hs => Ev_one fun k => by
      obtain ⟨s1, s2, s3⟩ := hs
      simp only [laws_markAccountS.l0]
      rw [if_neg (by omega), s2]
      congr 2
      refine ext_getD z44 (by rw [mkAccount_len, s1]) fun i hi => ?_
      rw [s3 i (by omega), mkAccount_at _ _ _ (by omega)])
    (fun i s hi hs => by
      obtain ⟨s1, s2, s3⟩ := hs
      obtain ⟨l1, x⟩ := s
      dsimp only at s1 s2 s3
      refine .inr ⟨(l1.set i (⟨c + 2 * (i : Int), c + 2 * (i : Int) + 1⟩ : S44), c + 2 * ((i + 1 : Nat) : Int)), ⟨by rw [List.length_set]; exact s1, rfl, fun j hj => ?_⟩, rfl, fun k => ?_⟩
      · rw [getD_set]
        by_cases e : i = j
        · subst e
          rw [if_pos ⟨rfl, by omega⟩]
        · rw [if_neg (fun g => e g.1)]
          exact s3 j (by omega)
      · show laws_markAccountS.l0 (k + 1) l1 x (i : Int) = _
        simp only [laws_markAccountS.l0]
        rw [if_pos (by omega), if_pos (by omega), w_succ hi (by omega)]
        simp only [Option.bind_some, rdM_Account, Int.toNat_natCast, set_set_eq, set_set_getD l1 i _ z44 (show i < l1.length by omega)]
        subst s2
        have w0 : wrap64 (c + 2 * (i : Int) + 1) = c + 2 * (i : Int) + 1 := by unfold wrap64; omega
        have w1 : wrap64 (c + 2 * (i : Int) + 1 + 1) = c + 2 * (i : Int) + 2 := by unfold wrap64; omega
        simp only [w0, w1]
        have e2 : c + 2 * ((i + 1 : Nat) : Int) = c + 2 * (i : Int) + 2 := by omega
        rw [e2]) l.length 0 (l, c) (by omega) (by omega) ⟨rfl, by omega, fun j hj => by omega⟩
  exact h
theorem held_Account (n : Nat) (c : Int) (h0 : 0 ≤ c) (h1 : c ≤ 1000000000000) (hl : n ≤ 1048577) : Ev (fun k => laws_heldAccountS.f k (mkAccount c n) c) (c + 2 * (n : Int)) := by
  unfold laws_heldAccountS.f
  have h := Ev_goes (fun k (s : Int) i => laws_heldAccountS.l0 k (mkAccount c n) s i) n (fun _ _ => c + 2 * (n : Int)) (fun i s => s = c + 2 * (i : Int))
    (fun s hs => Ev_one fun k => by
      simp only [laws_heldAccountS.l0]
      rw [if_neg (by rw [mkAccount_len]; omega), hs])
    (fun i s hi hs => by
      refine .inr ⟨c + 2 * ((i + 1 : Nat) : Int), rfl, rfl, fun k => ?_⟩
      show laws_heldAccountS.l0 (k + 1) (mkAccount c n) s (i : Int) = _
      subst hs
      simp only [laws_heldAccountS.l0]
      rw [if_pos (by rw [mkAccount_len]; omega), if_pos (by omega), w_succ hi (by omega)]
      simp only [rdM_Account, mkAccount_at c n i hi]
      have w0 : wrap64 (c + 2 * (i : Int) + 1) = c + 2 * (i : Int) + 1 := by unfold wrap64; omega
      have w1 : wrap64 (c + 2 * (i : Int) + 1 + 1) = c + 2 * (i : Int) + 2 := by unfold wrap64; omega
      simp only [w0, w1]
      have e2 : c + 2 * ((i + 1 : Nat) : Int) = c + 2 * (i : Int) + 2 := by omega
      rw [if_pos trivial, if_pos trivial, e2]) n 0 c (by omega) (by omega) (by omega)
  exact h
end Go.Proofs.Ytnfoldoeligfhaa.M1
namespace Go.Proofs.Ytnfoldoeligfhaa.Pure
open Go Go.RowKit Go.Proofs.Ytnfoldoeligfhaa.P Go.Proofs.YtnfoldoeligfhaaW.PrintWords Go.Proofs.YtnfoldoeligfhaaW.PrintLast Go.Proofs.Ytnfoldoeligfhaa.EV Go.Proofs.Ytnfoldoeligfhaa.I1 Go.Proofs.Ytnfoldoeligfhaa.C1 Go.Proofs.Ytnfoldoeligfhaa.P1 Go.Proofs.Ytnfoldoeligfhaa.T1 Go.Proofs.Ytnfoldoeligfhaa.M1
theorem putA_len (l : List S44) (a : S44) : (putA l a).1.length ≤ l.length + 1 := by
  unfold putA
  split
  · split
    · exact Nat.le_of_eq (insA_len l a)
    · exact Nat.le_succ _
  · exact Nat.zero_le _
theorem FnExactAccountPut : ∀ (l0 : List (S41)) (a1_0 : Int) (a1_1 : Int), l0.length ≤ 9223372036854775807 → (∀ x ∈ l0, (Lit.int .i64 x.f0).wf = true ∧ (Lit.int .i64 x.f1).wf = true) → (Lit.int .i64 a1_0).wf = true → (Lit.int .i64 a1_1).wf = true → ∃ k, laws_FnExactAccountPut.f k l0 a1_0 a1_1 = some true := by
  intro l b0 b1 hm0 _ _ _
  refine Ev.rounds ?_
  unfold laws_FnExactAccountPut.f
  by_cases hl : 1048576 < l.length
  · exact Ev_all_k fun k => by rw [sz_Account l 1048576 (by decide) (by decide) hm0, if_pos (by omega), Option.bind_some, if_pos (by decide)]
  · have hm : l.length ≤ 1048576 := by omega
    have hc : (l.map cvAccount).length ≤ 1048576 := by rw [List.length_map]; exact hm
    refine Ev.congr (fun k => by rw [sz_Account l 1048576 (by decide) (by decide) (by omega), if_neg (by omega), Option.bind_some, if_neg (by omega)]) ?_
    obtain ⟨o, ho⟩ : ∃ o, o = putA (l.map cvAccount) ⟨b0, b1⟩ := ⟨_, rfl⟩
    have hS : Ev (fun k => spec_AccountPut.f k (l.map cvAccount) b0 b1) o := by rw [ho]; exact putA_s (l.map cvAccount) ⟨b0, b1⟩ hc
    have hI : Ev (fun k => impl_AccountPut.f k (l.map cvAccount) b0 b1) o := by rw [ho]; exact putA_i (l.map cvAccount) ⟨b0, b1⟩ hc
    have ol : o.1.length ≤ 1048577 := by have := putA_len (l.map cvAccount) ⟨b0, b1⟩; rw [ho]; omega
    have h1 : Ev (fun _ => laws_toAccount.f b0 b1) (b0, b1) := Ev_all_k fun k => rfl
    have hb : (o.2 != o.2) = false := by simp
    refine Ev_bind (to_Account l hm) (Ev_bind h1 (Ev_bind hS (Ev_bind (to_Account l hm) (Ev_bind h1 (Ev_bind hI (Ev_bind (eq_Account o.1 (by omega)) ?_))))))
    refine Ev.congr (fun k => by rw [if_pos rfl, hb]) ?_
    refine Ev.step (fun k => by simp only [laws_FnExactAccountPut.j0]; rw [if_neg (by decide)]) ?_
    refine Ev_bind (to_Account l hm) (Ev_bind (eq_Account _ (by omega)) ?_)
    refine Ev.congr (fun k => if_pos rfl) ?_
    refine Ev_bind (mark_Account _ 1 (by decide) (by decide) (by omega)) ?_
    refine Ev.congr (fun k => if_neg (by show ¬ ((1 : Int) + 2 * ((l.map cvAccount).length : Int) < 0); omega)) ?_
    refine Ev_bind (eq_Account o.1 (by omega)) ?_
    refine Ev.congr (fun k => by rw [if_pos rfl, hb]) ?_
    refine Ev.step (fun k => by simp only [laws_FnExactAccountPut.j1]; rw [if_neg (by decide)]) ?_
    refine Ev_bind (mark_Account o.1 1 (by decide) (by decide) ol) (Ev_bind (held_Account o.1.length 1 (by decide) (by decide) ol) ?_)
    refine Ev.congr (fun k => (if_neg (by show ¬ ((1 : Int) + 2 * (o.1.length : Int) < 0); omega)).trans (if_pos rfl)) ?_
    refine Ev_bind (to_Account l hm) (Ev_bind h1 (Ev_bind hI (Ev_bind (eq_Account o.1 (by omega)) ?_)))
    refine Ev.congr (fun k => by rw [if_pos rfl, hb]) ?_
    refine Ev.step (fun k => by simp only [laws_FnExactAccountPut.j2]; rw [if_neg (by decide)]) ?_
    refine Ev_bind (held_Account o.1.length 1 (by decide) (by decide) ol) ?_
    exact Ev_all_k fun k => by rw [if_neg (by omega), if_pos rfl]
end Go.Proofs.Ytnfoldoeligfhaa.Pure
namespace Go.Proofs.Ytnfoldoeligfhaa.RS
open Go Go.ChangeShapes Go.WideShapes Go.Deep Go.RowKit Go.Proofs.YtnfoldoeligfhaaW.PrintWords
def allInts (P : Program) (fs : Array Field) : Bool := (List.range fs.size).all fun i => match fs[i]? with
  | some f => (match P.underlying f.type with | some (.int .i64) => true | _ => false)
  | none => false
theorem allInts_of {P : Program} {fs : Array Field} (h : allInts P fs = true) : ∀ (i : Nat) (f : Field), fs[i]? = some f → P.underlying f.type = some (.int .i64) := by
  intro i f hi
  have hlt : i < fs.size := (Array.getElem?_eq_some_iff.1 hi).1
  have z := List.all_eq_true.1 h i (List.mem_range.2 hlt)
  simp only [hi] at z
  split at z
  · assumption
  · cases z
section
variable {H : Type} {enc : TypeId × Value → H} {P : Program} {w : World} {base : Nat} {spare : Nat → Bool} {held : Bool}
theorem open_rows {t e : TypeId} {fs : Array Field} {fuel : Nat} {v : Value} {x : DataW H × List MemPlace} (ht : P.underlying t = some (.slice e)) (he : P.underlying e = some (.struct fs))
    (hone : oneCellFields P fs = true) (hint : allInts P fs = true) (hC : P.cellsOf e = fs.size) (h : DataW.trod enc P w base spare held fuel t [v] = some x) :
    ∃ (A : Option Addr) (len cap : Nat) (X : Nat → Nat → Int), v = .slice A len cap ∧ len ≤ cap ∧ cap ≤ maxLen ∧
      (0 < len → ∃ ad, A = some ad ∧ ∀ i, i < len → ∀ j, j < fs.size → w.cell? (ad.add (i * fs.size + j)) = some (.int .i64 (X i j)) ∧ (Lit.int .i64 (X i j)).wf = true) := by
  rcases open_slice ht h with ⟨hcs, _⟩ | ⟨a, len, cap, m, n, D, Pl, hcs, _, hl, hm, hmm, _, hi⟩
  · simp only [List.cons.injEq, and_true] at hcs
    exact ⟨none, 0, 0, fun _ _ => 0, hcs, Nat.le_refl _, Nat.zero_le _, fun hp => absurd hp (Nat.lt_irrefl 0)⟩
  · simp only [List.cons.injEq, and_true] at hcs
    have hmle : len ≤ m := by rw [hmm]; split <;> omega
    have key : ∀ i, i < len → ∃ f : Nat → Int, ∀ j, j < fs.size → w.cell? (a.add (i * fs.size + j)) = some (.int .i64 (f j)) ∧ (Lit.int .i64 (f j)).wf = true := by
      intro i him
      obtain ⟨cs', hc, ht'⟩ := hi i (by omega)
      rw [hC] at hc
      obtain ⟨ys, n', hn', hy, hlen, hyl, hf⟩ := DataW.trod_struct he ht'
      obtain ⟨_, hcl, hat⟩ := World.cells?_some hc
      refine choose_lt (α := Int) (n := fs.size) (p := fun j q => w.cell? (a.add (i * fs.size + j)) = some (.int .i64 q) ∧ (Lit.int .i64 q).wf = true) fun j hj => ?_
      have hfj : fs[j]? = some fs[j] := Array.getElem?_eq_getElem hj
      obtain ⟨ho, hk⟩ := hone_of hone j _ hfj
      have h1 := hf j _ hfj
      rw [ho, hk, take1_drop cs' j undef (by omega)] at h1
      have hys : ys[j]? = some (ys[j]'(by omega)) := List.getElem?_eq_getElem (by omega)
      rw [hys] at h1
      obtain ⟨q, hq, _, hwf⟩ := DataW.trod_int (allInts_of hint j _ hfj) h1
      simp only [List.cons.injEq, and_true] at hq
      have hcell := hat j (by omega)
      rw [List.getElem?_eq_getElem (by omega)] at hcell
      have hgd : cs'.getD j undef = cs'[j]'(by omega) := by
        rw [List.getD_eq_getElem?_getD, List.getElem?_eq_getElem (by omega), Option.getD_some]
      rw [hgd] at hq
      exact ⟨q, by rw [← Go.Deep.add_add, hcell, hq], hwf⟩
    obtain ⟨X, hX⟩ := choose_lt (α := Nat → Int) (n := len) (p := fun i f => ∀ j, j < fs.size → w.cell? (a.add (i * fs.size + j)) = some (.int .i64 (f j)) ∧ (Lit.int .i64 (f j)).wf = true) key
    exact ⟨some a, len, cap, X, hcs, hl, hm, fun _ => ⟨a, rfl, fun i him => hX i him⟩⟩
theorem open_val {r : Reach} {b0 : Nat} {t : TypeId} {fs : Array Field} {v : Value} {d : DataW H} {p : List MemPlace} (hs : P.underlying t = some (.struct fs)) (hone : oneCellFields P fs = true) (hC : P.cellsOf t = fs.size)
    (hv : Value.okWide P w r b0 t v) (h : DataW.Trod enc P w base spare held t v d p) :
    ∃ (cs : List Value) (n : Nat), v = .agg cs.toArray ∧ cs.length = fs.size ∧ ∀ (j : Nat) (f : Field), fs[j]? = some f → ∃ y, DataW.trod enc P w base spare held n f.type [cs.getD j undef] = some y := by
  obtain ⟨cs, rfl, hsz⟩ := okWide_struct hs hv
  obtain ⟨l⟩ := cs
  obtain ⟨fuel, hf⟩ := h
  obtain ⟨ys, n, _, _, _, hyl, hg⟩ := DataW.trod_struct hs hf
  have hl : l.length = fs.size := by rw [← hC]; exact hsz
  refine ⟨l, n, rfl, hl, fun j f hj => ?_⟩
  have hjl : j < fs.size := (Array.getElem?_eq_some_iff.1 hj).1
  obtain ⟨ho, hk⟩ := hone_of hone j f hj
  have h1 := hg j f hj
  have hcells : (Value.agg ⟨l⟩).cells.toList = l := rfl
  rw [ho, hk] at h1
  first | rw [hcells, take1_drop l j undef (by omega)] at h1 | rw [take1_drop l j undef (by omega)] at h1
  have hys : ys[j]? = some (ys[j]'(by omega)) := List.getElem?_eq_getElem (by omega)
  exact ⟨_, h1.trans hys⟩
theorem int_of {n : Nat} {t : TypeId} {v : Value} {x : DataW H × List MemPlace} (ht : P.underlying t = some (.int .i64)) (h : DataW.trod enc P w base spare held n t [v] = some x) : ∃ q : Int, v = .int .i64 q ∧ (Lit.int .i64 q).wf = true := by
  obtain ⟨q, hq, _, hw⟩ := DataW.trod_int ht h
  simp only [List.cons.injEq, and_true] at hq
  exact ⟨q, hq, hw⟩
end
theorem getD_range {α : Type} (n : Nat) (f : Nat → α) (i : Nat) (p : α) (h : ((List.range n).map f)[i]? = some p) : i < n ∧ p = f i := by
  have hi := (List.getElem?_eq_some_iff.1 h).1
  simp only [List.length_map, List.length_range] at hi
  refine ⟨hi, ?_⟩
  rw [List.getElem?_map, List.getElem?_range hi] at h
  simpa using h.symm
theorem mem_map_range {α : Type} {n : Nat} {f : Nat → α} {x : α} (h : x ∈ (List.range n).map f) : ∃ i, i < n ∧ x = f i := by
  obtain ⟨i, hi, rfl⟩ := List.mem_map.1 h
  exact ⟨i, List.mem_range.1 hi, rfl⟩
theorem len2 : ∀ {cs : List Value}, cs.length = 2 → ∃ x0 x1, cs = [x0, x1]
  | [x0, x1], _ => ⟨x0, x1, rfl⟩
end Go.Proofs.Ytnfoldoeligfhaa.RS
namespace Go.Proofs.Ytnfoldoeligfhaa.RT
open Go Go.RowKit Go.Proofs.Ytnfoldoeligfhaa.P Go.Proofs.YtnfoldoeligfhaaW.PrintWords Go.Proofs.YtnfoldoeligfhaaW.PrintLast
theorem row41 {W : World} {A : Option Addr} {len : Nat} {X : Nat → Nat → Int} (hm : len ≤ maxLen) (hx : 0 < len → ∃ ad, A = some ad ∧ ∀ i, i < len → ∀ j, j < 2 → W.cell? (ad.add (i * 2 + j)) = some (.int .i64 (X i j)) ∧ (Lit.int .i64 (X i j)).wf = true) :
    ∃ l : List S41, len = l.length ∧ Kd.C k41 W A l.length l ∧ ∀ x ∈ l, (Lit.int .i64 x.f0).wf = true ∧ (Lit.int .i64 x.f1).wf = true := by
  refine ⟨(List.range len).map fun i => (⟨X i 0, X i 1⟩ : S41), by simp, ⟨rfl, by simp only [List.length_map, List.length_range]; exact hm, fun hn => ?_⟩, fun x hxm => ?_⟩
  · obtain ⟨ad, e, hc⟩ := hx (by simpa using hn)
    refine ⟨ad, e, fun j p hj => ⟨_, rfl, k41_mk W p, fun i u hu => ?_⟩⟩
    obtain ⟨hjl, rfl⟩ := RS.getD_range _ _ _ _ hj
    have hi : i < 2 := (List.getElem?_eq_some_iff.1 hu).1
    have hcell := (hc j hjl i hi).1
    match i, hi, hu, hcell with
    | 0, _, hu, hcell => exact hcell.trans hu
    | 1, _, hu, hcell => exact hcell.trans hu
  · obtain ⟨i, hi, rfl⟩ := RS.mem_map_range hxm
    obtain ⟨ad, e, hc⟩ := hx (by omega)
    exact ⟨(hc i hi 0 (by decide)).2, (hc i hi 1 (by decide)).2⟩
end Go.Proofs.Ytnfoldoeligfhaa.RT
namespace Go.Proofs.Ytnfoldoeligfhaa.fnExactAccountPut
open Go.ChangeShapes Go.WideShapes Go.ChangeAt Go.RowKit Go.Proofs.YtnfoldoeligfhaaW.PrintWords
open Go.ChangeMaps (open_string shut_string)
set_option linter.unusedVariables false
theorem own : ownKnob Try.prog.godebug = none := by kernel_rfl
theorem laidOut : laidOutB Try.prog = true := by kernel_rfl
set_option maxRecDepth 100000 in
theorem lifted (os : Os) (started : os.Started) (H : Type) (enc : TypeId × Value → H) :
    ReturnsInHanded {} Try.checked os 7 .any (Rows.fnExactAccountPutSpec.pre6 enc Try.prog Try.f7 Rows.fnExactAccountPutRow.domain false) (Rows.fnExactAccountPutSpec.post enc Try.prog Try.f7 false true false false) := by
  refine returnsInHanded_of_change_sized (C := Try.checked) own started (by kernel_rfl) Try.func7
    (ChangeSpec.witness6 (enc := enc) (C := Try.checked) false ⟨#[], #[.slice none 0 0, .agg #[.int .i64 0, .int .i64 0]], []⟩ 8 (by kernel_rfl) (by kernel_rfl) (by kernel_rfl) (by kernel_rfl)) ?_
  intro W base args ds gs before hval0 hW hcnd hsz0 _
  have hsz : (DataW.weightsEach Try.prog (Try.f7.params.toList ++ Rows.fnExactAccountPutSpec.plain.varTypes Try.prog) (ds ++ gs)).all (· ≤ reachBytes) = true := hsz0
  have hval : ∀ (j : Nat) t v, Try.f7.params[j]? = some t → args[j]? = some v → Value.okWide Try.prog W .any base t v := hval0
  have hW' := hW
  obtain ⟨p, q, hA0, hV, rfl, hfz, hnd⟩ := hW
  have hA : DataW.TrodAll enc Try.prog W 0 (fun _ => true) true Try.f7.params.toList args.toList ds p := hA0
  rw [Try.params7] at hA hval hsz
  obtain ⟨v0, vs0, d0, ds0, p0, q0, hargs, rfl, rfl, h0, r0⟩ := trodAll_cons hA
  obtain ⟨v1, vs1, d1, ds1, p1, q1, rfl, rfl, rfl, h1, r1⟩ := trodAll_cons r0
  obtain ⟨rfl, rfl, rfl⟩ := trodAll_nil r1
  obtain rfl : args = #[v0, v1] := by cases args; simp_all
  obtain ⟨rfl, rfl⟩ := trodVars_none hV
  obtain ⟨a0, len0, cap0, rfl⟩ := okWide_slice Try.underlying22 (hval 0 22 v0 rfl rfl)
  have k0 := h0
  have lt0 : ∀ x ∈ p0, x.block < W.heap.size := by obtain ⟨m, hm⟩ := k0; exact DataW.trod_lt m _ _ _ hm
  obtain ⟨fu0, hf0⟩ := h0
  obtain ⟨A0, n0, c0, X0, hv0, hl0, hm0, hx0⟩ := RS.open_rows Try.underlying22 Try.underlying41 (by kernel_rfl) (by kernel_rfl) (by kernel_rfl) (v := .slice a0 len0 cap0) hf0
  obtain ⟨rfl, rfl, rfl⟩ := Value.slice.inj hv0
  obtain ⟨l0, e0, hr0, hw0⟩ := RT.row41 (Nat.le_trans hl0 hm0) hx0
  subst e0
  have k1 := h1
  have lt1 : ∀ x ∈ p1, x.block < W.heap.size := by obtain ⟨m, hm⟩ := k1; exact DataW.trod_lt m _ _ _ hm
  obtain ⟨cs1, n1, rfl, hcl1, hg1⟩ := RS.open_val Try.underlying41 (by kernel_rfl) (by kernel_rfl) (hval 1 41 v1 rfl rfl) h1
  have hcn1 : cs1.length = 2 := hcl1.trans (by kernel_rfl)
  clear hcl1
  obtain ⟨b1_0, b1_1, rfl⟩ := RS.len2 hcn1
  obtain ⟨y1_0, hy1_0⟩ := hg1 0 _ rfl
  obtain ⟨a1_0, hq1_0, hw1_0⟩ := RS.int_of (v := b1_0) Try.underlying3 hy1_0
  subst hq1_0
  obtain ⟨y1_1, hy1_1⟩ := hg1 1 _ rfl
  obtain ⟨a1_1, hq1_1, hw1_1⟩ := RS.int_of (v := b1_1) Try.underlying3 hy1_1
  subst hq1_1
  clear hA0 hval0 hsz0 hsz
  obtain ⟨k, hpure⟩ := Pure.FnExactAccountPut l0 a1_0 a1_1 (Kd.C_max hr0) hw0 hw1_0 hw1_1
  refine (P.laws_FnExactAccountPut.calls k _ _ l0 a1_0 a1_1 true W hr0 hl0 hpure).mono fun e W' hpost => ?_
  obtain ⟨he, hd⟩ := hpost
  have bel : Below W.heap.size W W' := hd
  subst he
  exact ⟨_, rfl, _, _, _, [], _, [], hW', trodAll_mk1 (shut_bool Try.underlying4 _), (trodAll_cons_mk (Below.trod laidOut (by kernel_rfl) (of_decide_eq_true (by kernel_rfl)) k0 bel lt0) (trodAll_cons_mk (Below.trod laidOut (by kernel_rfl) (of_decide_eq_true (by kernel_rfl)) k1 bel lt1) trodAll_mk0)), rfl, bel.frame _, fun h => by cases h⟩
theorem over : Rows.fnExactAccountPutRow.holds Try.pinned (OpenSpec.ofChange Rows.fnExactAccountPutSpec) :=
  OpenClaim.holds_of_wide 7 Try.f7 rfl rfl rfl rfl rfl rfl rfl ⟨rfl, rfl, rfl, rfl, rfl⟩ rfl rfl rfl rfl rfl (by kernel_rfl) Try.func7 (by kernel_rfl)
    (of_decide_eq_true (by kernel_rfl)) (by unfold Func.isWrapper; first | (rw [if_pos (by decide +kernel)]; kernel_rfl) | (rw [if_neg (by decide +kernel)]; exact ⟨rfl, rfl⟩))
    (fun os started H enc _ => lifted os started H enc)
theorem proved : Rows.FnExactAccountPutSaid := over
#print axioms proved
end Go.Proofs.Ytnfoldoeligfhaa.fnExactAccountPut
namespace Go.Proofs.Ytnfoldoeligfhaa
theorem fnExactAccountPut_holds : Rows.FnExactAccountPutSaid := fnExactAccountPut.proved
end Go.Proofs.Ytnfoldoeligfhaa
