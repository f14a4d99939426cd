/- What the law FnWays leans on, cut out of this repo's own texts by a program of this repo: plain functions, the walks that tie the Go calls to them, the law over lists and numbers, and the row. -/
import Derived.Test.YtomanpmffjkkgaaZFnWays6
import Derived.RowKit
import Derived.IntWalk
import Derived.Lib.Mul64
import Derived.Laws.BitsLemmas
namespace Go.Proofs.Ytomanpmffjkkgaa.P
end Go.Proofs.Ytomanpmffjkkgaa.P
namespace Go.Proofs.Ytomanpmffjkkgaa.EV
end Go.Proofs.Ytomanpmffjkkgaa.EV
namespace Go.Proofs.Ytomanpmffjkkgaa.I1
end Go.Proofs.Ytomanpmffjkkgaa.I1
namespace Go.Proofs.Ytomanpmffjkkgaa.N1
end Go.Proofs.Ytomanpmffjkkgaa.N1
namespace Go.Proofs.Ytomanpmffjkkgaa.E1
end Go.Proofs.Ytomanpmffjkkgaa.E1
namespace Go.Proofs.Ytomanpmffjkkgaa.E2
end Go.Proofs.Ytomanpmffjkkgaa.E2
namespace Go.Proofs.Ytomanpmffjkkgaa.E3
end Go.Proofs.Ytomanpmffjkkgaa.E3
namespace Go.Proofs.Ytomanpmffjkkgaa.L1
end Go.Proofs.Ytomanpmffjkkgaa.L1
namespace Go.Proofs.Ytomanpmffjkkgaa.E4
end Go.Proofs.Ytomanpmffjkkgaa.E4
namespace Go.Proofs.Ytomanpmffjkkgaa.E5
end Go.Proofs.Ytomanpmffjkkgaa.E5
namespace Go.Proofs.Ytomanpmffjkkgaa.E6
end Go.Proofs.Ytomanpmffjkkgaa.E6
namespace Go.Proofs.Ytomanpmffjkkgaa.E7
end Go.Proofs.Ytomanpmffjkkgaa.E7
namespace Go.Proofs.Ytomanpmffjkkgaa.P
open Go.RowKit Go.Proofs.YtomanpmffjkkgaaW.PrintWords Go.Proofs.YtomanpmffjkkgaaW.PrintLast Go.Proofs.YtomanpmffjkkgaaW.PrintMore
attribute [local go_sem] max2_int min2_int max_two min_two max_three min_three max_four min_four   -- for this text's walks alone
set_option linter.unusedVariables false
set_option linter.unusedSimpArgs false
mutual
def laws_FnWays.j0 : Nat → List (S37) → Int → Int → List (S37) → List (S37) → Int → Int → List (S37) → Int → Bool → Option (Bool)
 | 0, _, _, _, _, _, _, _, _, _, _ => none
 | k + 1, x3, x4, x5, x8, x9, x10, x11, x12, x13, x72 => if x72 = true then (none) else (if x11 = 0 then ((impl_LotsOf.f x9 x4 x5).bind fun t860 => ((impl_LotsOf.f x12 x4 x5).bind fun t863 => (laws_FnWays.l0 k x3 x4 x5 x8 x10 x13 t860 t863 0))) else (if x10 = 0 then (some (x13 == 0)) else (none)))
def laws_FnWays.l0 : Nat → List (S37) → Int → Int → List (S37) → Int → Int → List (S37) → List (S37) → Int → Option (Bool)
 | 0, _, _, _, _, _, _, _, _, _ => none
 | k + 1, x3, x4, x5, x8, x10, x13, x18, x19, x20 => if x20 < (x18.length : Int) then (if 0 ≤ (wrap64 ((wrap64 ((x8.length : Int) - 1)) - x20)) then (if (wrap64 ((wrap64 ((x8.length : Int) - 1)) - x20)) < (x8.length : Int) then (if 0 ≤ (wrap64 ((wrap64 ((x18.length : Int) - 1)) - x20)) then (if (wrap64 ((wrap64 ((x18.length : Int) - 1)) - x20)) < (x18.length : Int) then (if ((rd_T37 x18 (wrap64 ((wrap64 ((x18.length : Int) - 1)) - x20))).f2) = ((rd_T37 x8 (wrap64 ((wrap64 ((x8.length : Int) - 1)) - x20))).f2) then (if x20 < (wrap64 ((x18.length : Int) - 1)) then (if (!(((rd_T37 x18 (wrap64 ((wrap64 ((x18.length : Int) - 1)) - x20))).f0) == ((rd_T37 x8 (wrap64 ((wrap64 ((x8.length : Int) - 1)) - x20))).f0)) || (!(((rd_T37 x18 (wrap64 ((wrap64 ((x18.length : Int) - 1)) - x20))).f1) == ((rd_T37 x8 (wrap64 ((wrap64 ((x8.length : Int) - 1)) - x20))).f1)) || (!(((rd_T37 x18 (wrap64 ((wrap64 ((x18.length : Int) - 1)) - x20))).f2) == ((rd_T37 x8 (wrap64 ((wrap64 ((x8.length : Int) - 1)) - x20))).f2)) || (!(((rd_T37 x18 (wrap64 ((wrap64 ((x18.length : Int) - 1)) - x20))).f3) == ((rd_T37 x8 (wrap64 ((wrap64 ((x8.length : Int) - 1)) - x20))).f3)) || (!(((rd_T37 x18 (wrap64 ((wrap64 ((x18.length : Int) - 1)) - x20))).f4) == ((rd_T37 x8 (wrap64 ((wrap64 ((x8.length : Int) - 1)) - x20))).f4))))))) = true then (none) else (if ((rd_T37 x18 (wrap64 ((wrap64 ((x18.length : Int) - 1)) - x20))).f3) > ((rd_T37 x8 (wrap64 ((wrap64 ((x8.length : Int) - 1)) - x20))).f3) then (none) else (if ((rd_T37 x18 (wrap64 ((wrap64 ((x18.length : Int) - 1)) - x20))).f4) > ((rd_T37 x8 (wrap64 ((wrap64 ((x8.length : Int) - 1)) - x20))).f4) then (none) else (laws_FnWays.l0 k x3 x4 x5 x8 x10 x13 x18 x19 (wrap64 (x20 + 1)))))) else (if ((rd_T37 x18 (wrap64 ((wrap64 ((x18.length : Int) - 1)) - x20))).f3) > ((rd_T37 x8 (wrap64 ((wrap64 ((x8.length : Int) - 1)) - x20))).f3) then (none) else (if ((rd_T37 x18 (wrap64 ((wrap64 ((x18.length : Int) - 1)) - x20))).f4) > ((rd_T37 x8 (wrap64 ((wrap64 ((x8.length : Int) - 1)) - x20))).f4) then (none) else (laws_FnWays.l0 k x3 x4 x5 x8 x10 x13 x18 x19 (wrap64 (x20 + 1)))))) else (none)) else (none)) else (none)) else (none)) else (none)) else (laws_FnWays.l1 k x3 x4 x5 x8 x10 x13 x19 0)
def laws_FnWays.l1 : Nat → List (S37) → Int → Int → List (S37) → Int → Int → List (S37) → Int → Option (Bool)
 | 0, _, _, _, _, _, _, _, _ => none
 | k + 1, x3, x4, x5, x8, x10, x13, x19, x23 => if x23 < (x19.length : Int) then (if 0 ≤ x23 then (if x23 < (x8.length : Int) then (if ((rd_T37 x19 x23).f2) = ((rd_T37 x8 x23).f2) then (if x23 < (wrap64 ((x19.length : Int) - 1)) then (if (!(((rd_T37 x19 x23).f0) == ((rd_T37 x8 x23).f0)) || (!(((rd_T37 x19 x23).f1) == ((rd_T37 x8 x23).f1)) || (!(((rd_T37 x19 x23).f2) == ((rd_T37 x8 x23).f2)) || (!(((rd_T37 x19 x23).f3) == ((rd_T37 x8 x23).f3)) || (!(((rd_T37 x19 x23).f4) == ((rd_T37 x8 x23).f4))))))) = true then (none) else (if ((rd_T37 x19 x23).f3) > ((rd_T37 x8 x23).f3) then (none) else (laws_FnWays.l1 k x3 x4 x5 x8 x10 x13 x19 (wrap64 (x23 + 1))))) else (if ((rd_T37 x19 x23).f3) > ((rd_T37 x8 x23).f3) then (none) else (laws_FnWays.l1 k x3 x4 x5 x8 x10 x13 x19 (wrap64 (x23 + 1))))) else (none)) else (none)) else (none)) else (if (x8.length : Int) = 0 then (some true) else ((spec_LotsCost.f k x3 x4 x5).bind fun t878 => (if x10 ≤ t878 then ((spec_LotsCost.f k x3 x4 x5).bind fun t879 => (some (decide (x13 ≤ t879)))) else (none))))
end
def laws_FnWays.f (k : Nat) (l0 : List Int) : Option (Bool) := (laws_big.f l0).bind fun t834 => (if t834 = true then (some true) else ((spec_DrawLotTake.f k l0).bind fun bt835 => ((spec_LotsOf.f k bt835.1 bt835.2.1 bt835.2.2.1).bind fun t842 => ((impl_LotTake.f k bt835.1 bt835.2.1 bt835.2.2.1 bt835.2.2.2.1 1).bind fun bt845 => ((impl_LotTake.f k bt835.1 bt835.2.1 bt835.2.2.1 bt835.2.2.2.1 2).bind fun bt850 => ((spec_LotTake.f k bt835.1 bt835.2.1 bt835.2.2.1 bt835.2.2.2.1 1).bind fun bt855 => (if bt845.2.2 = bt855.2.2 then (laws_FnWays.j0 k bt835.1 bt835.2.1 bt835.2.2.1 t842 bt845.1 bt845.2.1 bt845.2.2 bt850.1 bt850.2.1 (bt850.2.2 != bt855.2.2)) else (none))))))))
set_option maxHeartbeats 8000000 in
set_option maxRecDepth 100000 in
theorem laws_FnWays.calls (k : Nat) (A0 : Option Addr) (c0 : Nat) (l0 : List Int) (r : Bool) (w : World) (hr0 : Kd.C (Kd.int .u8) w A0 l0.length l0) (hc0 : l0.length ≤ c0) (h : laws_FnWays.f k l0 = some r) :
 Calls Try.prog 11 #[.slice A0 l0.length c0] w fun e w' => e = .returned (.bool r) ∧ Below w.heap.size w w' := by
 have hu37 := Try.underlying37
 have HR0 := Aside0.mk hr0
 have HC0 := Aside0.mk hc0
 clear hr0 hc0
 have HB := Aside0.mk (Below.refl w.heap.size w)
 have H : ((laws_big.f l0).bind fun t834 => (if t834 = true then (some true) else ((spec_DrawLotTake.f k l0).bind fun bt835 => ((spec_LotsOf.f k bt835.1 bt835.2.1 bt835.2.2.1).bind fun t842 => ((impl_LotTake.f k bt835.1 bt835.2.1 bt835.2.2.1 bt835.2.2.2.1 1).bind fun bt845 => ((impl_LotTake.f k bt835.1 bt835.2.1 bt835.2.2.1 bt835.2.2.2.1 2).bind fun bt850 => ((spec_LotTake.f k bt835.1 bt835.2.1 bt835.2.2.1 bt835.2.2.2.1 1).bind fun bt855 => (if bt845.2.2 = bt855.2.2 then (laws_FnWays.j0 k bt835.1 bt835.2.1 bt835.2.2.1 t842 bt845.1 bt845.2.1 bt845.2.2 bt850.1 bt850.2.1 (bt850.2.2 != bt855.2.2)) else (none))))))))) = some r := h
 clear h
 replace H := Option.bind_eq_some_iff.mp H
 obtain ⟨t834, A20, H⟩ := H
 replace H : (if t834 = true then (some true) else ((spec_DrawLotTake.f k l0).bind fun bt835 => ((spec_LotsOf.f k bt835.1 bt835.2.1 bt835.2.2.1).bind fun t842 => ((impl_LotTake.f k bt835.1 bt835.2.1 bt835.2.2.1 bt835.2.2.2.1 1).bind fun bt845 => ((impl_LotTake.f k bt835.1 bt835.2.1 bt835.2.2.1 bt835.2.2.2.1 2).bind fun bt850 => ((spec_LotTake.f k bt835.1 bt835.2.1 bt835.2.2.1 bt835.2.2.2.1 1).bind fun bt855 => (if bt845.2.2 = bt855.2.2 then (laws_FnWays.j0 k bt835.1 bt835.2.1 bt835.2.2.1 t842 bt845.1 bt845.2.1 bt845.2.2 bt850.1 bt850.2.1 (bt850.2.2 != bt855.2.2)) else (none)))))))) = some r := H
 have A2 := Aside0.mk A20
 clear A20
 by_cases c3 : t834 = true
 ·
  subst c3
  have H1 : (some true) = some r := by rw [if_pos rfl] at H; exact H
  clear H
  have H := H1
  clear H1
  obtain rfl := Option.some.inj H
  go_enter Try.func11, Try.ntmps11
  go_wp2_with (first | (go_at_call 30; (with_reducible refine (laws_big.calls _ _ l0 true _ ?side1 ?side2 A2.out).mono ?_); (case side1 => repeat (first | exact HR0.out | (with_reducible refine Kd.C_alloc ?_ _) | (with_reducible refine Kd.C_drewN ?_ _) | (with_reducible refine Kd.C_drew ?_))); (case side2 => exact HC0.out); rintro e w' ⟨rfl, ⟨nd, rfl⟩⟩; (try first | exact ⟨rfl, _, World.drewN_drewN _ _ _⟩ | exact ⟨rfl, _, Eq.trans (World.drewN_drewN _ _ _) (congrArg (World.drewN _) (Nat.add_assoc _ _ _))⟩)))
  repeat (go_quiet (first | (go_at_call 30; (with_reducible refine (laws_big.calls _ _ l0 true _ ?side1 ?side2 A2.out).mono ?_); (case side1 => repeat (first | exact HR0.out | (with_reducible refine Kd.C_alloc ?_ _) | (with_reducible refine Kd.C_drewN ?_ _) | (with_reducible refine Kd.C_drew ?_))); (case side2 => exact HC0.out); rintro e w' ⟨rfl, ⟨nd, rfl⟩⟩; (try first | exact ⟨rfl, _, World.drewN_drewN _ _ _⟩ | exact ⟨rfl, _, Eq.trans (World.drewN_drewN _ _ _) (congrArg (World.drewN _) (Nat.add_assoc _ _ _))⟩))); try go_wp2_with (first | (go_at_call 30; (with_reducible refine (laws_big.calls _ _ l0 true _ ?side1 ?side2 A2.out).mono ?_); (case side1 => repeat (first | exact HR0.out | (with_reducible refine Kd.C_alloc ?_ _) | (with_reducible refine Kd.C_drewN ?_ _) | (with_reducible refine Kd.C_drew ?_))); (case side2 => exact HC0.out); rintro e w' ⟨rfl, ⟨nd, rfl⟩⟩; (try first | exact ⟨rfl, _, World.drewN_drewN _ _ _⟩ | exact ⟨rfl, _, Eq.trans (World.drewN_drewN _ _ _) (congrArg (World.drewN _) (Nat.add_assoc _ _ _))⟩))))
  go_ret
  exact ⟨er_, bb_⟩
 ·
  replace c3 := Bool.eq_false_iff.mpr c3
  subst c3
  have H1 : ((spec_DrawLotTake.f k l0).bind fun bt835 => ((spec_LotsOf.f k bt835.1 bt835.2.1 bt835.2.2.1).bind fun t842 => ((impl_LotTake.f k bt835.1 bt835.2.1 bt835.2.2.1 bt835.2.2.2.1 1).bind fun bt845 => ((impl_LotTake.f k bt835.1 bt835.2.1 bt835.2.2.1 bt835.2.2.2.1 2).bind fun bt850 => ((spec_LotTake.f k bt835.1 bt835.2.1 bt835.2.2.1 bt835.2.2.2.1 1).bind fun bt855 => (if bt845.2.2 = bt855.2.2 then (laws_FnWays.j0 k bt835.1 bt835.2.1 bt835.2.2.1 t842 bt845.1 bt845.2.1 bt845.2.2 bt850.1 bt850.2.1 (bt850.2.2 != bt855.2.2)) else (none))))))) = some r := by rw [if_neg (show ¬ (false = true) by decide)] at H; exact H
  clear H
  have H := H1
  clear H1
  replace H := Option.bind_eq_some_iff.mp H
  obtain ⟨⟨t835, t836, t837, t838, t839⟩, A40, H⟩ := H
  replace H : ((spec_LotsOf.f k t835 t836 t837).bind fun t842 => ((impl_LotTake.f k t835 t836 t837 t838 1).bind fun bt845 => ((impl_LotTake.f k t835 t836 t837 t838 2).bind fun bt850 => ((spec_LotTake.f k t835 t836 t837 t838 1).bind fun bt855 => (if bt845.2.2 = bt855.2.2 then (laws_FnWays.j0 k t835 t836 t837 t842 bt845.1 bt845.2.1 bt845.2.2 bt850.1 bt850.2.1 (bt850.2.2 != bt855.2.2)) else (none)))))) = some r := H
  have A4 := Aside0.mk A40
  clear A40
  replace H := Option.bind_eq_some_iff.mp H
  obtain ⟨t842, A50, H⟩ := H
  replace H : ((impl_LotTake.f k t835 t836 t837 t838 1).bind fun bt845 => ((impl_LotTake.f k t835 t836 t837 t838 2).bind fun bt850 => ((spec_LotTake.f k t835 t836 t837 t838 1).bind fun bt855 => (if bt845.2.2 = bt855.2.2 then (laws_FnWays.j0 k t835 t836 t837 t842 bt845.1 bt845.2.1 bt845.2.2 bt850.1 bt850.2.1 (bt850.2.2 != bt855.2.2)) else (none))))) = some r := H
  have A5 := Aside0.mk A50
  clear A50
  replace H := Option.bind_eq_some_iff.mp H
  obtain ⟨⟨t845, t846, t847⟩, A60, H⟩ := H
  replace H : ((impl_LotTake.f k t835 t836 t837 t838 2).bind fun bt850 => ((spec_LotTake.f k t835 t836 t837 t838 1).bind fun bt855 => (if t847 = bt855.2.2 then (laws_FnWays.j0 k t835 t836 t837 t842 t845 t846 t847 bt850.1 bt850.2.1 (bt850.2.2 != bt855.2.2)) else (none)))) = some r := H
  have A6 := Aside0.mk A60
  clear A60
  replace H := Option.bind_eq_some_iff.mp H
  obtain ⟨⟨t850, t851, t852⟩, A70, H⟩ := H
  replace H : ((spec_LotTake.f k t835 t836 t837 t838 1).bind fun bt855 => (if t847 = bt855.2.2 then (laws_FnWays.j0 k t835 t836 t837 t842 t845 t846 t847 t850 t851 (t852 != bt855.2.2)) else (none))) = some r := H
  have A7 := Aside0.mk A70
  clear A70
  replace H := Option.bind_eq_some_iff.mp H
  obtain ⟨⟨t855, t856, t857⟩, A80, H⟩ := H
  replace H : (if t847 = t857 then (laws_FnWays.j0 k t835 t836 t837 t842 t845 t846 t847 t850 t851 (t852 != t857)) else (none)) = some r := H
  have A8 := Aside0.mk A80
  clear A80
  have HC9 := Aside0.mk H
  clear H
  go_enter Try.func11, Try.ntmps11
  go_upto_region 8 with (first | (go_at_call 30; (with_reducible refine (laws_big.calls _ _ l0 false _ ?side1 ?side2 A2.out).mono ?_); (case side1 => repeat (first | exact HR0.out | (with_reducible refine Kd.C_alloc ?_ _) | (with_reducible refine Kd.C_drewN ?_ _) | (with_reducible refine Kd.C_drew ?_))); (case side2 => exact HC0.out); rintro e w' ⟨rfl, ⟨nd, rfl⟩⟩; (try first | exact ⟨rfl, _, World.drewN_drewN _ _ _⟩ | exact ⟨rfl, _, Eq.trans (World.drewN_drewN _ _ _) (congrArg (World.drewN _) (Nat.add_assoc _ _ _))⟩)) | (go_at_call 35; (with_reducible refine (spec_DrawLotTake.calls k _ _ l0 t835 t836 t837 t838 t839 _ ?side1 ?side2 A4.out).mono ?_); (case side1 => repeat (first | exact HR0.out | (with_reducible refine Kd.C_alloc ?_ _) | (with_reducible refine Kd.C_drewN ?_ _) | (with_reducible refine Kd.C_drew ?_))); (case side2 => exact HC0.out); rintro e w10 ⟨v840, rfl, ho0, hb⟩; have n0_ := Aside0.mk (Kd.R_lower ho0 (below_size (bb_))); have n1_ := Aside0.mk (below_step (bb_) hb); clear HB; have HO841 := n0_; have HB := n1_; clear n0_ n1_; (try clear hb); (try clear hb2); (try clear hk); (try clear hi); (try clear ho0); obtain ⟨Ao11, co11, eo11⟩ := Kd.R_slice HO841.out; subst eo11) | (go_at_call 23; (with_reducible refine (spec_LotsOf.calls k _ _ t835 t836 t837 t842 _ ?side1 ?side2 A5.out).mono ?_); (case side1 => repeat (first | exact (Kd.R_reads' HO841.out).2.2 | (with_reducible refine Kd.C_alloc ?_ _) | (with_reducible refine Kd.C_drewN ?_ _) | (with_reducible refine Kd.C_drew ?_))); (case side2 => exact (Kd.R_reads' HO841.out).2.1); rintro e w12 ⟨v843, rfl, ho0, hb⟩; have n0_ := Aside0.mk (Kd.R_elder' (pe_ HO841.out) (Kd.R_base ho0) hb); have n1_ := Aside0.mk (Kd.R_lower (Kd.R_new' ho0 (Kd.R_lt (pe_ HO841.out))) (below_size (bb_))); have n2_ := Aside0.mk (below_step (bb_) hb); clear HO841; clear HB; have HO841 := n0_; have HO844 := n1_; have HB := n2_; clear n0_ n1_ n2_; (try clear hb); (try clear hb2); (try clear hk); (try clear hi); (try clear ho0)) | (go_at_call 34; (with_reducible refine (impl_LotTake.calls k _ _ t835 t836 t837 t838 1 t845 t846 t847 _ ?side1 ?side2 A6.out).mono ?_); (case side1 => repeat (first | exact (Kd.R_reads' HO841.out).2.2 | (with_reducible refine Kd.C_alloc ?_ _) | (with_reducible refine Kd.C_drewN ?_ _) | (with_reducible refine Kd.C_drew ?_))); (case side2 => exact (Kd.R_reads' HO841.out).2.1); rintro e w13 ⟨v848, rfl, ho0, hb⟩; have n0_ := Aside0.mk (Kd.R_elder' (pe_ HO841.out) (Kd.R_base ho0) hb); have n1_ := Aside0.mk (Kd.R_elder' (pe_ HO844.out) (Kd.R_base ho0) hb); have n2_ := Aside0.mk (Kd.R_lower (Kd.R_new' (Kd.R_new' ho0 (Kd.R_lt (pe_ HO841.out))) (Kd.R_lt (pe_ HO844.out))) (below_size (bb_))); have n3_ := Aside0.mk (below_step (bb_) hb); clear HO841; clear HO844; clear HB; have HO841 := n0_; have HO844 := n1_; have HO849 := n2_; have HB := n3_; clear n0_ n1_ n2_ n3_; (try clear hb); (try clear hb2); (try clear hk); (try clear hi); (try clear ho0)) | (go_at_call 34; (with_reducible refine (impl_LotTake.calls k _ _ t835 t836 t837 t838 2 t850 t851 t852 _ ?side1 ?side2 A7.out).mono ?_); (case side1 => repeat (first | exact (Kd.R_reads' HO841.out).2.2 | (with_reducible refine Kd.C_alloc ?_ _) | (with_reducible refine Kd.C_drewN ?_ _) | (with_reducible refine Kd.C_drew ?_))); (case side2 => exact (Kd.R_reads' HO841.out).2.1); rintro e w14 ⟨v853, rfl, ho0, hb⟩; have n0_ := Aside0.mk (Kd.R_elder' (pe_ HO841.out) (Kd.R_base ho0) hb); have n1_ := Aside0.mk (Kd.R_elder' (pe_ HO844.out) (Kd.R_base ho0) hb); have n2_ := Aside0.mk (Kd.R_elder' (pe_ HO849.out) (Kd.R_base ho0) hb); have n3_ := Aside0.mk (Kd.R_lower (Kd.R_new' (Kd.R_new' (Kd.R_new' ho0 (Kd.R_lt (pe_ HO841.out))) (Kd.R_lt (pe_ HO844.out))) (Kd.R_lt (pe_ HO849.out))) (below_size (bb_))); have n4_ := Aside0.mk (below_step (bb_) hb); clear HO841; clear HO844; clear HO849; clear HB; have HO841 := n0_; have HO844 := n1_; have HO849 := n2_; have HO854 := n3_; have HB := n4_; clear n0_ n1_ n2_ n3_ n4_; (try clear hb); (try clear hb2); (try clear hk); (try clear hi); (try clear ho0)) | (go_at_call 33; (with_reducible refine (spec_LotTake.calls k _ _ t835 t836 t837 t838 1 t855 t856 t857 _ ?side1 ?side2 A8.out).mono ?_); (case side1 => repeat (first | exact (Kd.R_reads' HO841.out).2.2 | (with_reducible refine Kd.C_alloc ?_ _) | (with_reducible refine Kd.C_drewN ?_ _) | (with_reducible refine Kd.C_drew ?_))); (case side2 => exact (Kd.R_reads' HO841.out).2.1); rintro e w15 ⟨v858, rfl, ho0, hb⟩; have n0_ := Aside0.mk (Kd.R_elder' (pe_ HO841.out) (Kd.R_base ho0) hb); have n1_ := Aside0.mk (Kd.R_elder' (pe_ HO844.out) (Kd.R_base ho0) hb); have n2_ := Aside0.mk (Kd.R_elder' (pe_ HO849.out) (Kd.R_base ho0) hb); have n3_ := Aside0.mk (Kd.R_elder' (pe_ HO854.out) (Kd.R_base ho0) hb); have n4_ := Aside0.mk (Kd.R_lower (Kd.R_new' (Kd.R_new' (Kd.R_new' (Kd.R_new' ho0 (Kd.R_lt (pe_ HO841.out))) (Kd.R_lt (pe_ HO844.out))) (Kd.R_lt (pe_ HO849.out))) (Kd.R_lt (pe_ HO854.out))) (below_size (bb_))); have n5_ := Aside0.mk (below_step (bb_) hb); clear HO841; clear HO844; clear HO849; clear HO854; clear HB; have HO841 := n0_; have HO844 := n1_; have HO849 := n2_; have HO854 := n3_; have HO859 := n4_; have HB := n5_; clear n0_ n1_ n2_ n3_ n4_ n5_; (try clear hb); (try clear hb2); (try clear hk); (try clear hi); (try clear ho0)))
  repeat (go_quiet (first | (go_at_call 30; (with_reducible refine (laws_big.calls _ _ l0 false _ ?side1 ?side2 A2.out).mono ?_); (case side1 => repeat (first | exact HR0.out | (with_reducible refine Kd.C_alloc ?_ _) | (with_reducible refine Kd.C_drewN ?_ _) | (with_reducible refine Kd.C_drew ?_))); (case side2 => exact HC0.out); rintro e w' ⟨rfl, ⟨nd, rfl⟩⟩; (try first | exact ⟨rfl, _, World.drewN_drewN _ _ _⟩ | exact ⟨rfl, _, Eq.trans (World.drewN_drewN _ _ _) (congrArg (World.drewN _) (Nat.add_assoc _ _ _))⟩)) | (go_at_call 35; (with_reducible refine (spec_DrawLotTake.calls k _ _ l0 t835 t836 t837 t838 t839 _ ?side1 ?side2 A4.out).mono ?_); (case side1 => repeat (first | exact HR0.out | (with_reducible refine Kd.C_alloc ?_ _) | (with_reducible refine Kd.C_drewN ?_ _) | (with_reducible refine Kd.C_drew ?_))); (case side2 => exact HC0.out); rintro e w10 ⟨v840, rfl, ho0, hb⟩; have n0_ := Aside0.mk (Kd.R_lower ho0 (below_size (bb_))); have n1_ := Aside0.mk (below_step (bb_) hb); clear HB; have HO841 := n0_; have HB := n1_; clear n0_ n1_; (try clear hb); (try clear hb2); (try clear hk); (try clear hi); (try clear ho0); obtain ⟨Ao11, co11, eo11⟩ := Kd.R_slice HO841.out; subst eo11) | (go_at_call 23; (with_reducible refine (spec_LotsOf.calls k _ _ t835 t836 t837 t842 _ ?side1 ?side2 A5.out).mono ?_); (case side1 => repeat (first | exact (Kd.R_reads' HO841.out).2.2 | (with_reducible refine Kd.C_alloc ?_ _) | (with_reducible refine Kd.C_drewN ?_ _) | (with_reducible refine Kd.C_drew ?_))); (case side2 => exact (Kd.R_reads' HO841.out).2.1); rintro e w12 ⟨v843, rfl, ho0, hb⟩; have n0_ := Aside0.mk (Kd.R_elder' (pe_ HO841.out) (Kd.R_base ho0) hb); have n1_ := Aside0.mk (Kd.R_lower (Kd.R_new' ho0 (Kd.R_lt (pe_ HO841.out))) (below_size (bb_))); have n2_ := Aside0.mk (below_step (bb_) hb); clear HO841; clear HB; have HO841 := n0_; have HO844 := n1_; have HB := n2_; clear n0_ n1_ n2_; (try clear hb); (try clear hb2); (try clear hk); (try clear hi); (try clear ho0)) | (go_at_call 34; (with_reducible refine (impl_LotTake.calls k _ _ t835 t836 t837 t838 1 t845 t846 t847 _ ?side1 ?side2 A6.out).mono ?_); (case side1 => repeat (first | exact (Kd.R_reads' HO841.out).2.2 | (with_reducible refine Kd.C_alloc ?_ _) | (with_reducible refine Kd.C_drewN ?_ _) | (with_reducible refine Kd.C_drew ?_))); (case side2 => exact (Kd.R_reads' HO841.out).2.1); rintro e w13 ⟨v848, rfl, ho0, hb⟩; have n0_ := Aside0.mk (Kd.R_elder' (pe_ HO841.out) (Kd.R_base ho0) hb); have n1_ := Aside0.mk (Kd.R_elder' (pe_ HO844.out) (Kd.R_base ho0) hb); have n2_ := Aside0.mk (Kd.R_lower (Kd.R_new' (Kd.R_new' ho0 (Kd.R_lt (pe_ HO841.out))) (Kd.R_lt (pe_ HO844.out))) (below_size (bb_))); have n3_ := Aside0.mk (below_step (bb_) hb); clear HO841; clear HO844; clear HB; have HO841 := n0_; have HO844 := n1_; have HO849 := n2_; have HB := n3_; clear n0_ n1_ n2_ n3_; (try clear hb); (try clear hb2); (try clear hk); (try clear hi); (try clear ho0)) | (go_at_call 34; (with_reducible refine (impl_LotTake.calls k _ _ t835 t836 t837 t838 2 t850 t851 t852 _ ?side1 ?side2 A7.out).mono ?_); (case side1 => repeat (first | exact (Kd.R_reads' HO841.out).2.2 | (with_reducible refine Kd.C_alloc ?_ _) | (with_reducible refine Kd.C_drewN ?_ _) | (with_reducible refine Kd.C_drew ?_))); (case side2 => exact (Kd.R_reads' HO841.out).2.1); rintro e w14 ⟨v853, rfl, ho0, hb⟩; have n0_ := Aside0.mk (Kd.R_elder' (pe_ HO841.out) (Kd.R_base ho0) hb); have n1_ := Aside0.mk (Kd.R_elder' (pe_ HO844.out) (Kd.R_base ho0) hb); have n2_ := Aside0.mk (Kd.R_elder' (pe_ HO849.out) (Kd.R_base ho0) hb); have n3_ := Aside0.mk (Kd.R_lower (Kd.R_new' (Kd.R_new' (Kd.R_new' ho0 (Kd.R_lt (pe_ HO841.out))) (Kd.R_lt (pe_ HO844.out))) (Kd.R_lt (pe_ HO849.out))) (below_size (bb_))); have n4_ := Aside0.mk (below_step (bb_) hb); clear HO841; clear HO844; clear HO849; clear HB; have HO841 := n0_; have HO844 := n1_; have HO849 := n2_; have HO854 := n3_; have HB := n4_; clear n0_ n1_ n2_ n3_ n4_; (try clear hb); (try clear hb2); (try clear hk); (try clear hi); (try clear ho0)) | (go_at_call 33; (with_reducible refine (spec_LotTake.calls k _ _ t835 t836 t837 t838 1 t855 t856 t857 _ ?side1 ?side2 A8.out).mono ?_); (case side1 => repeat (first | exact (Kd.R_reads' HO841.out).2.2 | (with_reducible refine Kd.C_alloc ?_ _) | (with_reducible refine Kd.C_drewN ?_ _) | (with_reducible refine Kd.C_drew ?_))); (case side2 => exact (Kd.R_reads' HO841.out).2.1); rintro e w15 ⟨v858, rfl, ho0, hb⟩; have n0_ := Aside0.mk (Kd.R_elder' (pe_ HO841.out) (Kd.R_base ho0) hb); have n1_ := Aside0.mk (Kd.R_elder' (pe_ HO844.out) (Kd.R_base ho0) hb); have n2_ := Aside0.mk (Kd.R_elder' (pe_ HO849.out) (Kd.R_base ho0) hb); have n3_ := Aside0.mk (Kd.R_elder' (pe_ HO854.out) (Kd.R_base ho0) hb); have n4_ := Aside0.mk (Kd.R_lower (Kd.R_new' (Kd.R_new' (Kd.R_new' (Kd.R_new' ho0 (Kd.R_lt (pe_ HO841.out))) (Kd.R_lt (pe_ HO844.out))) (Kd.R_lt (pe_ HO849.out))) (Kd.R_lt (pe_ HO854.out))) (below_size (bb_))); have n5_ := Aside0.mk (below_step (bb_) hb); clear HO841; clear HO844; clear HO849; clear HO854; clear HB; have HO841 := n0_; have HO844 := n1_; have HO849 := n2_; have HO854 := n3_; have HO859 := n4_; have HB := n5_; clear n0_ n1_ n2_ n3_ n4_ n5_; (try clear hb); (try clear hb2); (try clear hk); (try clear hi); (try clear ho0))); go_upto_region 8 with (first | (go_at_call 30; (with_reducible refine (laws_big.calls _ _ l0 false _ ?side1 ?side2 A2.out).mono ?_); (case side1 => repeat (first | exact HR0.out | (with_reducible refine Kd.C_alloc ?_ _) | (with_reducible refine Kd.C_drewN ?_ _) | (with_reducible refine Kd.C_drew ?_))); (case side2 => exact HC0.out); rintro e w' ⟨rfl, ⟨nd, rfl⟩⟩; (try first | exact ⟨rfl, _, World.drewN_drewN _ _ _⟩ | exact ⟨rfl, _, Eq.trans (World.drewN_drewN _ _ _) (congrArg (World.drewN _) (Nat.add_assoc _ _ _))⟩)) | (go_at_call 35; (with_reducible refine (spec_DrawLotTake.calls k _ _ l0 t835 t836 t837 t838 t839 _ ?side1 ?side2 A4.out).mono ?_); (case side1 => repeat (first | exact HR0.out | (with_reducible refine Kd.C_alloc ?_ _) | (with_reducible refine Kd.C_drewN ?_ _) | (with_reducible refine Kd.C_drew ?_))); (case side2 => exact HC0.out); rintro e w10 ⟨v840, rfl, ho0, hb⟩; have n0_ := Aside0.mk (Kd.R_lower ho0 (below_size (bb_))); have n1_ := Aside0.mk (below_step (bb_) hb); clear HB; have HO841 := n0_; have HB := n1_; clear n0_ n1_; (try clear hb); (try clear hb2); (try clear hk); (try clear hi); (try clear ho0); obtain ⟨Ao11, co11, eo11⟩ := Kd.R_slice HO841.out; subst eo11) | (go_at_call 23; (with_reducible refine (spec_LotsOf.calls k _ _ t835 t836 t837 t842 _ ?side1 ?side2 A5.out).mono ?_); (case side1 => repeat (first | exact (Kd.R_reads' HO841.out).2.2 | (with_reducible refine Kd.C_alloc ?_ _) | (with_reducible refine Kd.C_drewN ?_ _) | (with_reducible refine Kd.C_drew ?_))); (case side2 => exact (Kd.R_reads' HO841.out).2.1); rintro e w12 ⟨v843, rfl, ho0, hb⟩; have n0_ := Aside0.mk (Kd.R_elder' (pe_ HO841.out) (Kd.R_base ho0) hb); have n1_ := Aside0.mk (Kd.R_lower (Kd.R_new' ho0 (Kd.R_lt (pe_ HO841.out))) (below_size (bb_))); have n2_ := Aside0.mk (below_step (bb_) hb); clear HO841; clear HB; have HO841 := n0_; have HO844 := n1_; have HB := n2_; clear n0_ n1_ n2_; (try clear hb); (try clear hb2); (try clear hk); (try clear hi); (try clear ho0)) | (go_at_call 34; (with_reducible refine (impl_LotTake.calls k _ _ t835 t836 t837 t838 1 t845 t846 t847 _ ?side1 ?side2 A6.out).mono ?_); (case side1 => repeat (first | exact (Kd.R_reads' HO841.out).2.2 | (with_reducible refine Kd.C_alloc ?_ _) | (with_reducible refine Kd.C_drewN ?_ _) | (with_reducible refine Kd.C_drew ?_))); (case side2 => exact (Kd.R_reads' HO841.out).2.1); rintro e w13 ⟨v848, rfl, ho0, hb⟩; have n0_ := Aside0.mk (Kd.R_elder' (pe_ HO841.out) (Kd.R_base ho0) hb); have n1_ := Aside0.mk (Kd.R_elder' (pe_ HO844.out) (Kd.R_base ho0) hb); have n2_ := Aside0.mk (Kd.R_lower (Kd.R_new' (Kd.R_new' ho0 (Kd.R_lt (pe_ HO841.out))) (Kd.R_lt (pe_ HO844.out))) (below_size (bb_))); have n3_ := Aside0.mk (below_step (bb_) hb); clear HO841; clear HO844; clear HB; have HO841 := n0_; have HO844 := n1_; have HO849 := n2_; have HB := n3_; clear n0_ n1_ n2_ n3_; (try clear hb); (try clear hb2); (try clear hk); (try clear hi); (try clear ho0)) | (go_at_call 34; (with_reducible refine (impl_LotTake.calls k _ _ t835 t836 t837 t838 2 t850 t851 t852 _ ?side1 ?side2 A7.out).mono ?_); (case side1 => repeat (first | exact (Kd.R_reads' HO841.out).2.2 | (with_reducible refine Kd.C_alloc ?_ _) | (with_reducible refine Kd.C_drewN ?_ _) | (with_reducible refine Kd.C_drew ?_))); (case side2 => exact (Kd.R_reads' HO841.out).2.1); rintro e w14 ⟨v853, rfl, ho0, hb⟩; have n0_ := Aside0.mk (Kd.R_elder' (pe_ HO841.out) (Kd.R_base ho0) hb); have n1_ := Aside0.mk (Kd.R_elder' (pe_ HO844.out) (Kd.R_base ho0) hb); have n2_ := Aside0.mk (Kd.R_elder' (pe_ HO849.out) (Kd.R_base ho0) hb); have n3_ := Aside0.mk (Kd.R_lower (Kd.R_new' (Kd.R_new' (Kd.R_new' ho0 (Kd.R_lt (pe_ HO841.out))) (Kd.R_lt (pe_ HO844.out))) (Kd.R_lt (pe_ HO849.out))) (below_size (bb_))); have n4_ := Aside0.mk (below_step (bb_) hb); clear HO841; clear HO844; clear HO849; clear HB; have HO841 := n0_; have HO844 := n1_; have HO849 := n2_; have HO854 := n3_; have HB := n4_; clear n0_ n1_ n2_ n3_ n4_; (try clear hb); (try clear hb2); (try clear hk); (try clear hi); (try clear ho0)) | (go_at_call 33; (with_reducible refine (spec_LotTake.calls k _ _ t835 t836 t837 t838 1 t855 t856 t857 _ ?side1 ?side2 A8.out).mono ?_); (case side1 => repeat (first | exact (Kd.R_reads' HO841.out).2.2 | (with_reducible refine Kd.C_alloc ?_ _) | (with_reducible refine Kd.C_drewN ?_ _) | (with_reducible refine Kd.C_drew ?_))); (case side2 => exact (Kd.R_reads' HO841.out).2.1); rintro e w15 ⟨v858, rfl, ho0, hb⟩; have n0_ := Aside0.mk (Kd.R_elder' (pe_ HO841.out) (Kd.R_base ho0) hb); have n1_ := Aside0.mk (Kd.R_elder' (pe_ HO844.out) (Kd.R_base ho0) hb); have n2_ := Aside0.mk (Kd.R_elder' (pe_ HO849.out) (Kd.R_base ho0) hb); have n3_ := Aside0.mk (Kd.R_elder' (pe_ HO854.out) (Kd.R_base ho0) hb); have n4_ := Aside0.mk (Kd.R_lower (Kd.R_new' (Kd.R_new' (Kd.R_new' (Kd.R_new' ho0 (Kd.R_lt (pe_ HO841.out))) (Kd.R_lt (pe_ HO844.out))) (Kd.R_lt (pe_ HO849.out))) (Kd.R_lt (pe_ HO854.out))) (below_size (bb_))); have n5_ := Aside0.mk (below_step (bb_) hb); clear HO841; clear HO844; clear HO849; clear HO854; clear HB; have HO841 := n0_; have HO844 := n1_; have HO849 := n2_; have HO854 := n3_; have HO859 := n4_; have HB := n5_; clear n0_ n1_ n2_ n3_ n4_ n5_; (try clear hb); (try clear hb2); (try clear hk); (try clear hi); (try clear ho0))))
  (try simp only [Act.put, List.setIfInBounds_toArray, List.set_cons_zero, List.set_cons_succ])
  go_cut [72] (fun v72 wc => ∃ (kq : Nat) (x72_8 : Bool), v72 = .bool x72_8 ∧ Aside0 (laws_FnWays.j0 kq t835 t836 t837 t842 t845 t846 t847 t850 t851 x72_8 = some r) ∧ Aside0 (kq ≤ k) ∧ Aside0 (Kd.R k37 37 wc w.heap.size (fun k_ => some k_ ≠ (v843 : Value).ownBlock ∧ some k_ ≠ (v848 : Value).ownBlock ∧ some k_ ≠ (v853 : Value).ownBlock) (.slice Ao11 t835.length co11) t835) ∧ Aside0 (Kd.R k37 37 wc w.heap.size (fun k_ => some k_ ≠ ((.slice Ao11 t835.length co11) : Value).ownBlock ∧ some k_ ≠ (v848 : Value).ownBlock ∧ some k_ ≠ (v853 : Value).ownBlock) v843 t842) ∧ Aside0 (Kd.R k37 37 wc w.heap.size (fun k_ => some k_ ≠ ((.slice Ao11 t835.length co11) : Value).ownBlock ∧ some k_ ≠ (v843 : Value).ownBlock ∧ some k_ ≠ (v853 : Value).ownBlock) v848 t845) ∧ Aside0 (Kd.R k37 37 wc w.heap.size (fun k_ => some k_ ≠ ((.slice Ao11 t835.length co11) : Value).ownBlock ∧ some k_ ≠ (v843 : Value).ownBlock ∧ some k_ ≠ (v848 : Value).ownBlock) v853 t850) ∧ Aside0 (Below w.heap.size w wc))
  case first =>
   have H := HC9.out
   clear HC9
   by_cases c16 : t847 = t857
   ·
    rw [if_pos c16] at H
    have c16b0 : (t847 == t857) = true := beq_iff_eq.mpr c16
    have c16b1 : (t847 != t857) = false := bne_eq_false_iff_eq.mpr c16
    clear c16
    (first | rw [c16b0] | (simp only [i64_w, i32_w]; rw [c16b0]) | skip)
    have H' := Aside0.mk H
    clear H
    go_wp2
    repeat (go_quiet (fail); try go_wp2)
    go_meet
    case rel => exact ⟨_, ((t852 != t857)), (by first | rfl | (simp; done) | (simp [*]; done)), H', ⟨by first | omega | exact Nat.le_refl _⟩, ⟨by (with_reducible repeat (first | apply Kd.R_alloc | apply Kd.R_drewN | apply Kd.R_drew)); exact Kd.R_mono HO841.out (fun _ hk => ⟨hk.1.1.1.2, ⟨hk.1.1.2, hk.1.2⟩⟩)⟩, ⟨by (with_reducible repeat (first | apply Kd.R_alloc | apply Kd.R_drewN | apply Kd.R_drew)); exact Kd.R_mono HO844.out (fun _ hk => ⟨hk.1.1.1.2, ⟨hk.1.1.2, hk.1.2⟩⟩)⟩, ⟨by (with_reducible repeat (first | apply Kd.R_alloc | apply Kd.R_drewN | apply Kd.R_drew)); exact Kd.R_mono HO849.out (fun _ hk => ⟨hk.1.1.1.2, ⟨hk.1.1.2, hk.1.2⟩⟩)⟩, ⟨by (with_reducible repeat (first | apply Kd.R_alloc | apply Kd.R_drewN | apply Kd.R_drew)); exact Kd.R_mono HO854.out (fun _ hk => ⟨hk.1.1.1.2, ⟨hk.1.1.2, hk.1.2⟩⟩)⟩, ⟨bb_⟩⟩
   ·
    rw [if_neg c16] at H
    exact absurd H (by simp)
  case rest =>
   clear HC9
   try clear c1
   try clear p2
   try clear c3
   try clear c11
   try clear c16
   try clear c16b0
   try clear c16b1
   obtain ⟨kq, x72_8, rfl, HA, HJ8, HO_3, HO_8, HO_9, HO_12, HB⟩ := hcut
   cases kq with
   | zero => exact absurd HA.out (by simp [laws_FnWays.j0])
   | succ kj8 =>
    have H := HA.out
    clear HA
    simp only [laws_FnWays.j0] at H
    by_cases c17 : x72_8 = true
    ·
     subst c17
     have H1 : (none) = some r := by rw [if_pos rfl] at H; exact H
     clear H
     have H := H1
     clear H1
     exact absurd H (by simp)
    ·
     replace c17 := Bool.eq_false_iff.mpr c17
     subst c17
     have H1 : (if t847 = 0 then ((impl_LotsOf.f t845 t836 t837).bind fun t860 => ((impl_LotsOf.f t850 t836 t837).bind fun t863 => (laws_FnWays.l0 kj8 t835 t836 t837 t842 t846 t851 t860 t863 0))) else (if t846 = 0 then (some (t851 == 0)) else (none))) = some r := by rw [if_neg (show ¬ (false = true) by decide)] at H; exact H
     clear H
     have H := H1
     clear H1
     by_cases c18 : t847 = 0
     ·
      rw [if_pos c18] at H
      have c18b0 : (t847 == 0) = true := beq_iff_eq.mpr c18
      have c18b1 : (t847 != 0) = false := bne_eq_false_iff_eq.mpr c18
      clear c18
      replace H := Option.bind_eq_some_iff.mp H
      obtain ⟨t860, A190, H⟩ := H
      replace H : ((impl_LotsOf.f t850 t836 t837).bind fun t863 => (laws_FnWays.l0 kj8 t835 t836 t837 t842 t846 t851 t860 t863 0)) = some r := H
      have A19 := Aside0.mk A190
      clear A190
      replace H := Option.bind_eq_some_iff.mp H
      obtain ⟨t863, A200, H⟩ := H
      replace H : (laws_FnWays.l0 kj8 t835 t836 t837 t842 t846 t851 t860 t863 0) = some r := H
      have A20 := Aside0.mk A200
      clear A200
      have H' := Aside0.mk H
      clear H
      obtain ⟨Ao21, co21, eo21⟩ := Kd.R_slice HO_9.out
      subst eo21
      go_wp2_with (first | (go_at_call 24; (with_reducible refine (impl_LotsOf.calls _ _ t845 t836 t837 t860 _ ?side1 ?side2 A19.out).mono ?_); (case side1 => repeat (first | exact (Kd.R_reads' HO_9.out).2.2 | (with_reducible refine Kd.C_alloc ?_ _) | (with_reducible refine Kd.C_drewN ?_ _) | (with_reducible refine Kd.C_drew ?_))); (case side2 => exact (Kd.R_reads' HO_9.out).2.1); rintro e w22 ⟨v861, rfl, ho0, hb⟩; have n0_ := Aside0.mk (Kd.R_elder' (pe_ HO_3.out) (Kd.R_base ho0) hb); have n1_ := Aside0.mk (Kd.R_elder' (pe_ HO_8.out) (Kd.R_base ho0) hb); have n2_ := Aside0.mk (Kd.R_elder' (pe_ HO_9.out) (Kd.R_base ho0) hb); have n3_ := Aside0.mk (Kd.R_elder' (pe_ HO_12.out) (Kd.R_base ho0) hb); have n4_ := Aside0.mk (Kd.R_lower (Kd.R_new' (Kd.R_new' (Kd.R_new' (Kd.R_new' ho0 (Kd.R_lt (pe_ HO_3.out))) (Kd.R_lt (pe_ HO_8.out))) (Kd.R_lt (pe_ HO_9.out))) (Kd.R_lt (pe_ HO_12.out))) (below_size (bb_))); have n5_ := Aside0.mk (below_step (bb_) hb); clear HO_3; clear HO_8; clear HO_9; clear HO_12; clear HB; have HO_3 := n0_; have HO_8 := n1_; have HO_9 := n2_; have HO_12 := n3_; have HO862 := n4_; have HB := n5_; clear n0_ n1_ n2_ n3_ n4_ n5_; (try clear hb); (try clear hb2); (try clear hk); (try clear hi); (try clear ho0); obtain ⟨Ao23, co23, eo23⟩ := Kd.R_slice HO_12.out; subst eo23) | (go_at_call 24; (with_reducible refine (impl_LotsOf.calls _ _ t850 t836 t837 t863 _ ?side1 ?side2 A20.out).mono ?_); (case side1 => repeat (first | exact (Kd.R_reads' HO_12.out).2.2 | (with_reducible refine Kd.C_alloc ?_ _) | (with_reducible refine Kd.C_drewN ?_ _) | (with_reducible refine Kd.C_drew ?_))); (case side2 => exact (Kd.R_reads' HO_12.out).2.1); rintro e w24 ⟨v864, rfl, ho0, hb⟩; have n0_ := Aside0.mk (Kd.R_elder' (pe_ HO_3.out) (Kd.R_base ho0) hb); have n1_ := Aside0.mk (Kd.R_elder' (pe_ HO_8.out) (Kd.R_base ho0) hb); have n2_ := Aside0.mk (Kd.R_elder' (pe_ HO_9.out) (Kd.R_base ho0) hb); have n3_ := Aside0.mk (Kd.R_elder' (pe_ HO_12.out) (Kd.R_base ho0) hb); have n4_ := Aside0.mk (Kd.R_elder' (pe_ HO862.out) (Kd.R_base ho0) hb); have n5_ := Aside0.mk (Kd.R_lower (Kd.R_new' (Kd.R_new' (Kd.R_new' (Kd.R_new' (Kd.R_new' ho0 (Kd.R_lt (pe_ HO_3.out))) (Kd.R_lt (pe_ HO_8.out))) (Kd.R_lt (pe_ HO_9.out))) (Kd.R_lt (pe_ HO_12.out))) (Kd.R_lt (pe_ HO862.out))) (below_size (bb_))); have n6_ := Aside0.mk (below_step (bb_) hb); clear HO_3; clear HO_8; clear HO_9; clear HO_12; clear HO862; clear HB; have HO_3 := n0_; have HO_8 := n1_; have HO_9 := n2_; have HO_12 := n3_; have HO862 := n4_; have HO865 := n5_; have HB := n6_; clear n0_ n1_ n2_ n3_ n4_ n5_ n6_; (try clear hb); (try clear hb2); (try clear hk); (try clear hi); (try clear ho0)))
      repeat (go_quiet (first | (go_at_call 24; (with_reducible refine (impl_LotsOf.calls _ _ t845 t836 t837 t860 _ ?side1 ?side2 A19.out).mono ?_); (case side1 => repeat (first | exact (Kd.R_reads' HO_9.out).2.2 | (with_reducible refine Kd.C_alloc ?_ _) | (with_reducible refine Kd.C_drewN ?_ _) | (with_reducible refine Kd.C_drew ?_))); (case side2 => exact (Kd.R_reads' HO_9.out).2.1); rintro e w22 ⟨v861, rfl, ho0, hb⟩; have n0_ := Aside0.mk (Kd.R_elder' (pe_ HO_3.out) (Kd.R_base ho0) hb); have n1_ := Aside0.mk (Kd.R_elder' (pe_ HO_8.out) (Kd.R_base ho0) hb); have n2_ := Aside0.mk (Kd.R_elder' (pe_ HO_9.out) (Kd.R_base ho0) hb); have n3_ := Aside0.mk (Kd.R_elder' (pe_ HO_12.out) (Kd.R_base ho0) hb); have n4_ := Aside0.mk (Kd.R_lower (Kd.R_new' (Kd.R_new' (Kd.R_new' (Kd.R_new' ho0 (Kd.R_lt (pe_ HO_3.out))) (Kd.R_lt (pe_ HO_8.out))) (Kd.R_lt (pe_ HO_9.out))) (Kd.R_lt (pe_ HO_12.out))) (below_size (bb_))); have n5_ := Aside0.mk (below_step (bb_) hb); clear HO_3; clear HO_8; clear HO_9; clear HO_12; clear HB; have HO_3 := n0_; have HO_8 := n1_; have HO_9 := n2_; have HO_12 := n3_; have HO862 := n4_; have HB := n5_; clear n0_ n1_ n2_ n3_ n4_ n5_; (try clear hb); (try clear hb2); (try clear hk); (try clear hi); (try clear ho0); obtain ⟨Ao23, co23, eo23⟩ := Kd.R_slice HO_12.out; subst eo23) | (go_at_call 24; (with_reducible refine (impl_LotsOf.calls _ _ t850 t836 t837 t863 _ ?side1 ?side2 A20.out).mono ?_); (case side1 => repeat (first | exact (Kd.R_reads' HO_12.out).2.2 | (with_reducible refine Kd.C_alloc ?_ _) | (with_reducible refine Kd.C_drewN ?_ _) | (with_reducible refine Kd.C_drew ?_))); (case side2 => exact (Kd.R_reads' HO_12.out).2.1); rintro e w24 ⟨v864, rfl, ho0, hb⟩; have n0_ := Aside0.mk (Kd.R_elder' (pe_ HO_3.out) (Kd.R_base ho0) hb); have n1_ := Aside0.mk (Kd.R_elder' (pe_ HO_8.out) (Kd.R_base ho0) hb); have n2_ := Aside0.mk (Kd.R_elder' (pe_ HO_9.out) (Kd.R_base ho0) hb); have n3_ := Aside0.mk (Kd.R_elder' (pe_ HO_12.out) (Kd.R_base ho0) hb); have n4_ := Aside0.mk (Kd.R_elder' (pe_ HO862.out) (Kd.R_base ho0) hb); have n5_ := Aside0.mk (Kd.R_lower (Kd.R_new' (Kd.R_new' (Kd.R_new' (Kd.R_new' (Kd.R_new' ho0 (Kd.R_lt (pe_ HO_3.out))) (Kd.R_lt (pe_ HO_8.out))) (Kd.R_lt (pe_ HO_9.out))) (Kd.R_lt (pe_ HO_12.out))) (Kd.R_lt (pe_ HO862.out))) (below_size (bb_))); have n6_ := Aside0.mk (below_step (bb_) hb); clear HO_3; clear HO_8; clear HO_9; clear HO_12; clear HO862; clear HB; have HO_3 := n0_; have HO_8 := n1_; have HO_9 := n2_; have HO_12 := n3_; have HO862 := n4_; have HO865 := n5_; have HB := n6_; clear n0_ n1_ n2_ n3_ n4_ n5_ n6_; (try clear hb); (try clear hb2); (try clear hk); (try clear hi); (try clear ho0))); try go_wp2_with (first | (go_at_call 24; (with_reducible refine (impl_LotsOf.calls _ _ t845 t836 t837 t860 _ ?side1 ?side2 A19.out).mono ?_); (case side1 => repeat (first | exact (Kd.R_reads' HO_9.out).2.2 | (with_reducible refine Kd.C_alloc ?_ _) | (with_reducible refine Kd.C_drewN ?_ _) | (with_reducible refine Kd.C_drew ?_))); (case side2 => exact (Kd.R_reads' HO_9.out).2.1); rintro e w22 ⟨v861, rfl, ho0, hb⟩; have n0_ := Aside0.mk (Kd.R_elder' (pe_ HO_3.out) (Kd.R_base ho0) hb); have n1_ := Aside0.mk (Kd.R_elder' (pe_ HO_8.out) (Kd.R_base ho0) hb); have n2_ := Aside0.mk (Kd.R_elder' (pe_ HO_9.out) (Kd.R_base ho0) hb); have n3_ := Aside0.mk (Kd.R_elder' (pe_ HO_12.out) (Kd.R_base ho0) hb); have n4_ := Aside0.mk (Kd.R_lower (Kd.R_new' (Kd.R_new' (Kd.R_new' (Kd.R_new' ho0 (Kd.R_lt (pe_ HO_3.out))) (Kd.R_lt (pe_ HO_8.out))) (Kd.R_lt (pe_ HO_9.out))) (Kd.R_lt (pe_ HO_12.out))) (below_size (bb_))); have n5_ := Aside0.mk (below_step (bb_) hb); clear HO_3; clear HO_8; clear HO_9; clear HO_12; clear HB; have HO_3 := n0_; have HO_8 := n1_; have HO_9 := n2_; have HO_12 := n3_; have HO862 := n4_; have HB := n5_; clear n0_ n1_ n2_ n3_ n4_ n5_; (try clear hb); (try clear hb2); (try clear hk); (try clear hi); (try clear ho0); obtain ⟨Ao23, co23, eo23⟩ := Kd.R_slice HO_12.out; subst eo23) | (go_at_call 24; (with_reducible refine (impl_LotsOf.calls _ _ t850 t836 t837 t863 _ ?side1 ?side2 A20.out).mono ?_); (case side1 => repeat (first | exact (Kd.R_reads' HO_12.out).2.2 | (with_reducible refine Kd.C_alloc ?_ _) | (with_reducible refine Kd.C_drewN ?_ _) | (with_reducible refine Kd.C_drew ?_))); (case side2 => exact (Kd.R_reads' HO_12.out).2.1); rintro e w24 ⟨v864, rfl, ho0, hb⟩; have n0_ := Aside0.mk (Kd.R_elder' (pe_ HO_3.out) (Kd.R_base ho0) hb); have n1_ := Aside0.mk (Kd.R_elder' (pe_ HO_8.out) (Kd.R_base ho0) hb); have n2_ := Aside0.mk (Kd.R_elder' (pe_ HO_9.out) (Kd.R_base ho0) hb); have n3_ := Aside0.mk (Kd.R_elder' (pe_ HO_12.out) (Kd.R_base ho0) hb); have n4_ := Aside0.mk (Kd.R_elder' (pe_ HO862.out) (Kd.R_base ho0) hb); have n5_ := Aside0.mk (Kd.R_lower (Kd.R_new' (Kd.R_new' (Kd.R_new' (Kd.R_new' (Kd.R_new' ho0 (Kd.R_lt (pe_ HO_3.out))) (Kd.R_lt (pe_ HO_8.out))) (Kd.R_lt (pe_ HO_9.out))) (Kd.R_lt (pe_ HO_12.out))) (Kd.R_lt (pe_ HO862.out))) (below_size (bb_))); have n6_ := Aside0.mk (below_step (bb_) hb); clear HO_3; clear HO_8; clear HO_9; clear HO_12; clear HO862; clear HB; have HO_3 := n0_; have HO_8 := n1_; have HO_9 := n2_; have HO_12 := n3_; have HO862 := n4_; have HO865 := n5_; have HB := n6_; clear n0_ n1_ n2_ n3_ n4_ n5_ n6_; (try clear hb); (try clear hb2); (try clear hk); (try clear hi); (try clear ho0))))
      go_loopg [20] kj8 (fun kq v20 w' => ∃ (x20_2 : Int), v20 = .int .i64 x20_2 ∧ Aside0 (laws_FnWays.l0 kq t835 t836 t837 t842 t846 t851 t860 t863 x20_2 = some r) ∧ Aside0 (kq ≤ kj8) ∧ Aside0 (Kd.R k37 37 w' w.heap.size (fun k_ => some k_ ≠ (v843 : Value).ownBlock ∧ some k_ ≠ (v861 : Value).ownBlock ∧ some k_ ≠ (v864 : Value).ownBlock) (.slice Ao11 t835.length co11) t835) ∧ Aside0 (Kd.R k37 37 w' w.heap.size (fun k_ => some k_ ≠ ((.slice Ao11 t835.length co11) : Value).ownBlock ∧ some k_ ≠ (v861 : Value).ownBlock ∧ some k_ ≠ (v864 : Value).ownBlock) v843 t842) ∧ Aside0 (Kd.R k37 37 w' w.heap.size (fun k_ => some k_ ≠ ((.slice Ao11 t835.length co11) : Value).ownBlock ∧ some k_ ≠ (v843 : Value).ownBlock ∧ some k_ ≠ (v864 : Value).ownBlock) v861 t860) ∧ Aside0 (Kd.R k37 37 w' w.heap.size (fun k_ => some k_ ≠ ((.slice Ao11 t835.length co11) : Value).ownBlock ∧ some k_ ≠ (v843 : Value).ownBlock ∧ some k_ ≠ (v861 : Value).ownBlock) v864 t863) ∧ Aside0 (Below w.heap.size w w'))
      case atStart => exact ⟨(0), (by first | rfl | (simp; done) | (simp [*]; done)), H', ⟨Nat.le_refl _⟩, ⟨by (with_reducible repeat (first | apply Kd.R_alloc | apply Kd.R_drewN | apply Kd.R_drew)); exact Kd.R_mono HO_3.out (fun _ hk => ⟨hk.1.1.1, ⟨hk.1.2, hk.2⟩⟩)⟩, ⟨by (with_reducible repeat (first | apply Kd.R_alloc | apply Kd.R_drewN | apply Kd.R_drew)); exact Kd.R_mono HO_8.out (fun _ hk => ⟨hk.1.1.1, ⟨hk.1.2, hk.2⟩⟩)⟩, ⟨by (with_reducible repeat (first | apply Kd.R_alloc | apply Kd.R_drewN | apply Kd.R_drew)); exact Kd.R_mono HO862.out (fun _ hk => ⟨hk.1.1.1.1.2, ⟨hk.1.1.1.2, hk.2⟩⟩)⟩, ⟨by (with_reducible repeat (first | apply Kd.R_alloc | apply Kd.R_drewN | apply Kd.R_drew)); exact Kd.R_mono HO865.out (fun _ hk => ⟨hk.1.1.1.1.2, ⟨hk.1.1.1.2, hk.2⟩⟩)⟩, ⟨bb_⟩⟩
      case round =>
       clear H'
       try clear c1
       try clear p2
       try clear c3
       try clear c11
       try clear c16
       try clear c16b0
       try clear c16b1
       try clear c17
       try clear c18
       try clear c18b0
       try clear c18b1
       try clear p2
       obtain ⟨x20_2, rfl, HA, HK2, HO_3, HO_8, HO_18, HO_19, HB⟩ := hrel
       cases gk with
       | zero => exact absurd HA.out (by simp [laws_FnWays.l0])
       | succ k2 =>
        have H := HA.out
        clear HA
        simp only [laws_FnWays.l0] at H
        by_cases c25 : x20_2 < (t860.length : Int)
        ·
         rw [if_pos c25] at H
         have c25b0 : decide (x20_2 < (t860.length : Int)) = true := decide_eq_true c25
         clear c25
         obtain ⟨ji26, hji26⟩ : ∃ j_ : Int, (wrap64 ((wrap64 ((t842.length : Int) - 1)) - x20_2)) = j_ := ⟨_, rfl⟩
         replace H : (if 0 ≤ (ji26) then (if (ji26) < (t842.length : Int) then (if 0 ≤ (wrap64 ((wrap64 ((t860.length : Int) - 1)) - x20_2)) then (if (wrap64 ((wrap64 ((t860.length : Int) - 1)) - x20_2)) < (t860.length : Int) then (if ((rd_T37 t860 (wrap64 ((wrap64 ((t860.length : Int) - 1)) - x20_2))).f2) = ((rd_T37 t842 (ji26)).f2) then (if x20_2 < (wrap64 ((t860.length : Int) - 1)) then (if (!(((rd_T37 t860 (wrap64 ((wrap64 ((t860.length : Int) - 1)) - x20_2))).f0) == ((rd_T37 t842 (ji26)).f0)) || (!(((rd_T37 t860 (wrap64 ((wrap64 ((t860.length : Int) - 1)) - x20_2))).f1) == ((rd_T37 t842 (ji26)).f1)) || (!(((rd_T37 t860 (wrap64 ((wrap64 ((t860.length : Int) - 1)) - x20_2))).f2) == ((rd_T37 t842 (ji26)).f2)) || (!(((rd_T37 t860 (wrap64 ((wrap64 ((t860.length : Int) - 1)) - x20_2))).f3) == ((rd_T37 t842 (ji26)).f3)) || (!(((rd_T37 t860 (wrap64 ((wrap64 ((t860.length : Int) - 1)) - x20_2))).f4) == ((rd_T37 t842 (ji26)).f4))))))) = true then (none) else (if ((rd_T37 t860 (wrap64 ((wrap64 ((t860.length : Int) - 1)) - x20_2))).f3) > ((rd_T37 t842 (ji26)).f3) then (none) else (if ((rd_T37 t860 (wrap64 ((wrap64 ((t860.length : Int) - 1)) - x20_2))).f4) > ((rd_T37 t842 (ji26)).f4) then (none) else (laws_FnWays.l0 k2 t835 t836 t837 t842 t846 t851 t860 t863 (wrap64 (x20_2 + 1)))))) else (if ((rd_T37 t860 (wrap64 ((wrap64 ((t860.length : Int) - 1)) - x20_2))).f3) > ((rd_T37 t842 (ji26)).f3) then (none) else (if ((rd_T37 t860 (wrap64 ((wrap64 ((t860.length : Int) - 1)) - x20_2))).f4) > ((rd_T37 t842 (ji26)).f4) then (none) else (laws_FnWays.l0 k2 t835 t836 t837 t842 t846 t851 t860 t863 (wrap64 (x20_2 + 1)))))) else (none)) else (none)) else (none)) else (none)) else (none)) = some r := by first | (rw [hji26] at H; exact H) | (simp only [hji26] at H ⊢; exact H)
         have hji26w : (IntKind.i64.wrap ((wrap64 ((t842.length : Int) - 1)) - x20_2)) = ji26 := (i64_w _).trans hji26
         by_cases c27 : 0 ≤ (ji26)
         ·
          rw [if_pos c27] at H
          have c27b0 : decide (0 ≤ (ji26)) = true := decide_eq_true c27
          clear c27
          by_cases c28 : (ji26) < (t842.length : Int)
          ·
           rw [if_pos c28] at H
           have c28b0 : decide ((ji26) < (t842.length : Int)) = true := decide_eq_true c28
           clear c28
           obtain ⟨ji29, hji29⟩ : ∃ j_ : Int, (wrap64 ((wrap64 ((t860.length : Int) - 1)) - x20_2)) = j_ := ⟨_, rfl⟩
           replace H : (if 0 ≤ (ji29) then (if (ji29) < (t860.length : Int) then (if ((rd_T37 t860 (ji29)).f2) = ((rd_T37 t842 (ji26)).f2) then (if x20_2 < (wrap64 ((t860.length : Int) - 1)) then (if (!(((rd_T37 t860 (ji29)).f0) == ((rd_T37 t842 (ji26)).f0)) || (!(((rd_T37 t860 (ji29)).f1) == ((rd_T37 t842 (ji26)).f1)) || (!(((rd_T37 t860 (ji29)).f2) == ((rd_T37 t842 (ji26)).f2)) || (!(((rd_T37 t860 (ji29)).f3) == ((rd_T37 t842 (ji26)).f3)) || (!(((rd_T37 t860 (ji29)).f4) == ((rd_T37 t842 (ji26)).f4))))))) = true then (none) else (if ((rd_T37 t860 (ji29)).f3) > ((rd_T37 t842 (ji26)).f3) then (none) else (if ((rd_T37 t860 (ji29)).f4) > ((rd_T37 t842 (ji26)).f4) then (none) else (laws_FnWays.l0 k2 t835 t836 t837 t842 t846 t851 t860 t863 (wrap64 (x20_2 + 1)))))) else (if ((rd_T37 t860 (ji29)).f3) > ((rd_T37 t842 (ji26)).f3) then (none) else (if ((rd_T37 t860 (ji29)).f4) > ((rd_T37 t842 (ji26)).f4) then (none) else (laws_FnWays.l0 k2 t835 t836 t837 t842 t846 t851 t860 t863 (wrap64 (x20_2 + 1)))))) else (none)) else (none)) else (none)) = some r := by first | (rw [hji29] at H; exact H) | (simp only [hji29] at H ⊢; exact H)
           have hji29w : (IntKind.i64.wrap ((wrap64 ((t860.length : Int) - 1)) - x20_2)) = ji29 := (i64_w _).trans hji29
           by_cases c30 : 0 ≤ (ji29)
           ·
            rw [if_pos c30] at H
            have c30b0 : decide (0 ≤ (ji29)) = true := decide_eq_true c30
            clear c30
            by_cases c31 : (ji29) < (t860.length : Int)
            ·
             rw [if_pos c31] at H
             have c31b0 : decide ((ji29) < (t860.length : Int)) = true := decide_eq_true c31
             clear c31
             by_cases c32 : ((rd_T37 t860 (ji29)).f2) = ((rd_T37 t842 (ji26)).f2)
             ·
              rw [if_pos c32] at H
              have c32b0 : (((rd_T37 t860 (ji29)).f2) == ((rd_T37 t842 (ji26)).f2)) = true := beq_iff_eq.mpr c32
              have c32b1 : (((rd_T37 t860 (ji29)).f2) != ((rd_T37 t842 (ji26)).f2)) = false := bne_eq_false_iff_eq.mpr c32
              clear c32
              by_cases c33 : x20_2 < (wrap64 ((t860.length : Int) - 1))
              ·
               rw [if_pos c33] at H
               have c33b0 : decide (x20_2 < (wrap64 ((t860.length : Int) - 1))) = true := decide_eq_true c33
               clear c33
               by_cases c34 : (!(((rd_T37 t860 (ji29)).f0) == ((rd_T37 t842 (ji26)).f0)) || (!(((rd_T37 t860 (ji29)).f1) == ((rd_T37 t842 (ji26)).f1)) || (!(((rd_T37 t860 (ji29)).f2) == ((rd_T37 t842 (ji26)).f2)) || (!(((rd_T37 t860 (ji29)).f3) == ((rd_T37 t842 (ji26)).f3)) || (!(((rd_T37 t860 (ji29)).f4) == ((rd_T37 t842 (ji26)).f4))))))) = true
               ·
                rw [if_pos c34] at H
                exact absurd H (by simp)
               ·
                rw [if_neg c34] at H
                have c34b0 : (!(((rd_T37 t860 (ji29)).f0) == ((rd_T37 t842 (ji26)).f0)) || (!(((rd_T37 t860 (ji29)).f1) == ((rd_T37 t842 (ji26)).f1)) || (!(((rd_T37 t860 (ji29)).f2) == ((rd_T37 t842 (ji26)).f2)) || (!(((rd_T37 t860 (ji29)).f3) == ((rd_T37 t842 (ji26)).f3)) || (!(((rd_T37 t860 (ji29)).f4) == ((rd_T37 t842 (ji26)).f4))))))) = false := by simpa using c34
                obtain ⟨df0, df1, df2, df3, df4⟩ : ((rd_T37 t860 (ji29)).f0) = ((rd_T37 t842 (ji26)).f0) ∧ ((rd_T37 t860 (ji29)).f1) = ((rd_T37 t842 (ji26)).f1) ∧ ((rd_T37 t860 (ji29)).f2) = ((rd_T37 t842 (ji26)).f2) ∧ ((rd_T37 t860 (ji29)).f3) = ((rd_T37 t842 (ji26)).f3) ∧ ((rd_T37 t860 (ji29)).f4) = ((rd_T37 t842 (ji26)).f4) := by simpa using c34b0
                replace df0 := eq_true df0
                replace df1 := eq_true df1
                replace df2 := eq_true df2
                replace df3 := eq_true df3
                replace df4 := eq_true df4
                clear c34
                by_cases c35 : ((rd_T37 t860 (ji29)).f3) > ((rd_T37 t842 (ji26)).f3)
                ·
                 rw [if_pos c35] at H
                 exact absurd H (by simp)
                ·
                 rw [if_neg c35] at H
                 have c35b0 : decide (((rd_T37 t842 (ji26)).f3) < ((rd_T37 t860 (ji29)).f3)) = false := decide_eq_false c35
                 clear c35
                 by_cases c36 : ((rd_T37 t860 (ji29)).f4) > ((rd_T37 t842 (ji26)).f4)
                 ·
                  rw [if_pos c36] at H
                  exact absurd H (by simp)
                 ·
                  rw [if_neg c36] at H
                  have c36b0 : decide (((rd_T37 t842 (ji26)).f4) < ((rd_T37 t860 (ji29)).f4)) = false := decide_eq_false c36
                  clear c36
                  have H' := Aside0.mk H
                  clear H
                  obtain ⟨Ao37, co37, eo37⟩ := Kd.R_slice HO_18.out
                  subst eo37
                  obtain ⟨Ao38, co38, eo38⟩ := Kd.R_slice HO_8.out
                  subst eo38
                  have p866 : 0 ≤ ((ji26) : Int) := od_
                  have q866 : (ji26) < (t842.length : Int) := od_
                  obtain ⟨ad866, e866, hx866_0, hx866_1, hx866_2, hx866_3, hx866_4⟩ := at_T37 (Kd.R_reads' HO_8.out).2.2 (ji26) p866 q866
                  cases e866
                  replace p866 := eq_true p866
                  replace q866 := eq_true q866
                  go_wp2_with (first | ((with_reducible refine gate_dst (N := 21) rfl ?_); (try (refine gate_guard (by rfl) ?_; dsimp only)); refine box_event ?hg (N := 21) ?hd (cs := #[.int .i64 0, .int .i64 0, .int .i64 0, .int .i64 0, .int .i64 0]) (t := 37) ?hr ?_; (case hd => rfl); (case hg => rfl); (case hr => first | (go_simp; done) | (go_simp; rfl)); intro gb867 hg w39 hbox hb; have n0_ := Aside0.mk (Kd.R_below (Kd.R_elderB (pe_ HO_3.out) gb867 (Nat.le_of_eq hg.symm)) hb); have n1_ := Aside0.mk (Kd.R_below (Kd.R_elderB (pe_ HO_8.out) gb867 (Nat.le_of_eq hg.symm)) hb); have n2_ := Aside0.mk (Kd.R_below (Kd.R_elderB (pe_ HO_18.out) gb867 (Nat.le_of_eq hg.symm)) hb); have n3_ := Aside0.mk (Kd.R_below (Kd.R_elderB (pe_ HO_19.out) gb867 (Nat.le_of_eq hg.symm)) hb); have n4_ := Aside0.mk (below_step (bb_) hb); have n5_ := Aside0.mk (hbox); have n6_ := Aside0.mk ((by rw [hg]; exact (below_size (bb_)) : w.heap.size ≤ gb867)); have n7_ := Aside0.mk ((by rw [hg]; exact (below_size (bb_)) : w.heap.size ≤ gb867)); clear HO_3; clear HO_8; clear HO_18; clear HO_19; clear HB; have HO_3 := n0_; have HO_8 := n1_; have HO_18 := n2_; have HO_19 := n3_; have HB := n4_; have BK867 := n5_; have GW867 := n6_; have GE867 := n7_; clear n0_ n1_ n2_ n3_ n4_ n5_ n6_ n7_; clear hb hbox hg; have hcz40_0 : w39.cell? ⟨gb867, 0, none⟩ = some (.int .i64 0) := (blk_cell BK867.out 0).trans rfl; have hcz40_1 : w39.cell? ⟨gb867, 1, none⟩ = some (.int .i64 0) := (blk_cell BK867.out 1).trans rfl; have hcz40_2 : w39.cell? ⟨gb867, 2, none⟩ = some (.int .i64 0) := (blk_cell BK867.out 2).trans rfl; have hcz40_3 : w39.cell? ⟨gb867, 3, none⟩ = some (.int .i64 0) := (blk_cell BK867.out 3).trans rfl; have hcz40_4 : w39.cell? ⟨gb867, 4, none⟩ = some (.int .i64 0) := (blk_cell BK867.out 4).trans rfl; have hfz40_0 := blk_frozen BK867.out 0; have hfz40_1 := blk_frozen BK867.out 1; have hfz40_2 := blk_frozen BK867.out 2; have hfz40_3 := blk_frozen BK867.out 3; have hfz40_4 := blk_frozen BK867.out 4) | ((with_reducible refine gate_store (t := 37) (p := 21) rfl ?_); (try (rw [drewN_self w39]; generalize hq_ : World.drewN w39 _ = w39; have n0_ := Aside0.mk (Kd.R_at hq_ HO_3.out); have n1_ := Aside0.mk (Kd.R_at hq_ HO_8.out); have n2_ := Aside0.mk (Kd.R_at hq_ HO_18.out); have n3_ := Aside0.mk (Kd.R_at hq_ HO_19.out); have n4_ := Aside0.mk (blk_at hq_ BK867.out); have n5_ := Aside0.mk (below_at hq_ HB.out); clear hq_ HO_3 HO_8 HO_18 HO_19 BK867 HB; have HO_3 := n0_; have HO_8 := n1_; have HO_18 := n2_; have HO_19 := n3_; have BK867 := n4_; have HB := n5_; clear n0_ n1_ n2_ n3_ n4_ n5_)); refine store_event (t := 37) (p := 21) (v := ?vo_w41) (w1 := (((((w39.setCell ⟨gb867, 0, none⟩ (.int .i64 ((rd_T37 t842 (ji26)).f0))).setCell ⟨gb867, 1, none⟩ (.int .i64 ((rd_T37 t842 (ji26)).f1))).setCell ⟨gb867, 2, none⟩ (.int .i64 ((rd_T37 t842 (ji26)).f2))).setCell ⟨gb867, 3, none⟩ (.int .i64 ((rd_T37 t842 (ji26)).f3))).setCell ⟨gb867, 4, none⟩ (.int .i64 ((rd_T37 t842 (ji26)).f4)))) ?hg ?ho ?hn ?hr ?_; (case ho => rfl); (case hg => rfl); (case hn => rfl); (case hr => first | (go_simp; done) | (go_simp; rfl)); intro w41 hw; have n0_ : Aside0 (Kd.R k37 37 w41 w.heap.size (fun k_ => some k_ ≠ (.slice (some ad866) t842.length co38 : Value).ownBlock ∧ some k_ ≠ (.slice Ao37 t860.length co37 : Value).ownBlock ∧ some k_ ≠ (v864 : Value).ownBlock ∧ k_ ≠ gb867) (.slice Ao11 t835.length co11) t835) := ⟨(by rw [hw]; exact (by (with_reducible repeat (first | apply Kd.R_alloc | apply Kd.R_drewN | apply Kd.R_drew)); exact Kd.R_mono (Kd.R_far (p := ⟨gb867, 4, none⟩) (Kd.R_far (p := ⟨gb867, 3, none⟩) (Kd.R_far (p := ⟨gb867, 2, none⟩) (Kd.R_far (p := ⟨gb867, 1, none⟩) (Kd.R_far (p := ⟨gb867, 0, none⟩) (Kd.R_mono HO_3.out (fun k_ hk => (⟨hk, hk.2⟩ : _ ∧ k_ ≠ gb867))) (fun _ hk => hk.2) (.int .i64 ((rd_T37 t842 (ji26)).f0))) (fun _ hk => hk.2) (.int .i64 ((rd_T37 t842 (ji26)).f1))) (fun _ hk => hk.2) (.int .i64 ((rd_T37 t842 (ji26)).f2))) (fun _ hk => hk.2) (.int .i64 ((rd_T37 t842 (ji26)).f3))) (fun _ hk => hk.2) (.int .i64 ((rd_T37 t842 (ji26)).f4))) (fun _ hk => ⟨hk.1.1.1, ⟨hk.1.1.2.1, ⟨hk.1.1.2.2, hk.1.2⟩⟩⟩)))⟩; have n1_ : Aside0 (Kd.R k37 37 w41 w.heap.size (fun k_ => some k_ ≠ (.slice Ao11 t835.length co11 : Value).ownBlock ∧ some k_ ≠ (.slice Ao37 t860.length co37 : Value).ownBlock ∧ some k_ ≠ (v864 : Value).ownBlock ∧ k_ ≠ gb867) (.slice (some ad866) t842.length co38) t842) := ⟨(by rw [hw]; exact (by (with_reducible repeat (first | apply Kd.R_alloc | apply Kd.R_drewN | apply Kd.R_drew)); exact Kd.R_mono (Kd.R_far (p := ⟨gb867, 4, none⟩) (Kd.R_far (p := ⟨gb867, 3, none⟩) (Kd.R_far (p := ⟨gb867, 2, none⟩) (Kd.R_far (p := ⟨gb867, 1, none⟩) (Kd.R_far (p := ⟨gb867, 0, none⟩) (Kd.R_mono HO_8.out (fun k_ hk => (⟨hk, hk.2⟩ : _ ∧ k_ ≠ gb867))) (fun _ hk => hk.2) (.int .i64 ((rd_T37 t842 (ji26)).f0))) (fun _ hk => hk.2) (.int .i64 ((rd_T37 t842 (ji26)).f1))) (fun _ hk => hk.2) (.int .i64 ((rd_T37 t842 (ji26)).f2))) (fun _ hk => hk.2) (.int .i64 ((rd_T37 t842 (ji26)).f3))) (fun _ hk => hk.2) (.int .i64 ((rd_T37 t842 (ji26)).f4))) (fun _ hk => ⟨hk.1.1.1, ⟨hk.1.1.2.1, ⟨hk.1.1.2.2, hk.1.2⟩⟩⟩)))⟩; have n2_ : Aside0 (Kd.R k37 37 w41 w.heap.size (fun k_ => some k_ ≠ (.slice Ao11 t835.length co11 : Value).ownBlock ∧ some k_ ≠ (.slice (some ad866) t842.length co38 : Value).ownBlock ∧ some k_ ≠ (v864 : Value).ownBlock ∧ k_ ≠ gb867) (.slice Ao37 t860.length co37) t860) := ⟨(by rw [hw]; exact (by (with_reducible repeat (first | apply Kd.R_alloc | apply Kd.R_drewN | apply Kd.R_drew)); exact Kd.R_mono (Kd.R_far (p := ⟨gb867, 4, none⟩) (Kd.R_far (p := ⟨gb867, 3, none⟩) (Kd.R_far (p := ⟨gb867, 2, none⟩) (Kd.R_far (p := ⟨gb867, 1, none⟩) (Kd.R_far (p := ⟨gb867, 0, none⟩) (Kd.R_mono HO_18.out (fun k_ hk => (⟨hk, hk.2⟩ : _ ∧ k_ ≠ gb867))) (fun _ hk => hk.2) (.int .i64 ((rd_T37 t842 (ji26)).f0))) (fun _ hk => hk.2) (.int .i64 ((rd_T37 t842 (ji26)).f1))) (fun _ hk => hk.2) (.int .i64 ((rd_T37 t842 (ji26)).f2))) (fun _ hk => hk.2) (.int .i64 ((rd_T37 t842 (ji26)).f3))) (fun _ hk => hk.2) (.int .i64 ((rd_T37 t842 (ji26)).f4))) (fun _ hk => ⟨hk.1.1.1, ⟨hk.1.1.2.1, ⟨hk.1.1.2.2, hk.1.2⟩⟩⟩)))⟩; have n3_ : Aside0 (Kd.R k37 37 w41 w.heap.size (fun k_ => some k_ ≠ (.slice Ao11 t835.length co11 : Value).ownBlock ∧ some k_ ≠ (.slice (some ad866) t842.length co38 : Value).ownBlock ∧ some k_ ≠ (.slice Ao37 t860.length co37 : Value).ownBlock ∧ k_ ≠ gb867) v864 t863) := ⟨(by rw [hw]; exact (by (with_reducible repeat (first | apply Kd.R_alloc | apply Kd.R_drewN | apply Kd.R_drew)); exact Kd.R_mono (Kd.R_far (p := ⟨gb867, 4, none⟩) (Kd.R_far (p := ⟨gb867, 3, none⟩) (Kd.R_far (p := ⟨gb867, 2, none⟩) (Kd.R_far (p := ⟨gb867, 1, none⟩) (Kd.R_far (p := ⟨gb867, 0, none⟩) (Kd.R_mono HO_19.out (fun k_ hk => (⟨hk, hk.2⟩ : _ ∧ k_ ≠ gb867))) (fun _ hk => hk.2) (.int .i64 ((rd_T37 t842 (ji26)).f0))) (fun _ hk => hk.2) (.int .i64 ((rd_T37 t842 (ji26)).f1))) (fun _ hk => hk.2) (.int .i64 ((rd_T37 t842 (ji26)).f2))) (fun _ hk => hk.2) (.int .i64 ((rd_T37 t842 (ji26)).f3))) (fun _ hk => hk.2) (.int .i64 ((rd_T37 t842 (ji26)).f4))) (fun _ hk => ⟨hk.1.1.1, ⟨hk.1.1.2.1, ⟨hk.1.1.2.2, hk.1.2⟩⟩⟩)))⟩; have n4_ : Aside0 (w41.heap[gb867]? = some (.cells #[.int .i64 ((rd_T37 t842 (ji26)).f0), .int .i64 ((rd_T37 t842 (ji26)).f1), .int .i64 ((rd_T37 t842 (ji26)).f2), .int .i64 ((rd_T37 t842 (ji26)).f3), .int .i64 ((rd_T37 t842 (ji26)).f4)] 37 (0, 0))) := ⟨(by rw [hw]; exact (by (with_reducible repeat (first | refine blk_drewN ?_ _ | refine blk_drew ?_ | refine blk_alloc ?_ _)); refine blk_put (cs := #[.int .i64 ((rd_T37 t842 (ji26)).f0), .int .i64 ((rd_T37 t842 (ji26)).f1), .int .i64 ((rd_T37 t842 (ji26)).f2), .int .i64 ((rd_T37 t842 (ji26)).f3), .int .i64 0]) ?_ 4 _ rfl; (with_reducible repeat (first | refine blk_drewN ?_ _ | refine blk_drew ?_ | refine blk_alloc ?_ _)); refine blk_put (cs := #[.int .i64 ((rd_T37 t842 (ji26)).f0), .int .i64 ((rd_T37 t842 (ji26)).f1), .int .i64 ((rd_T37 t842 (ji26)).f2), .int .i64 0, .int .i64 0]) ?_ 3 _ rfl; (with_reducible repeat (first | refine blk_drewN ?_ _ | refine blk_drew ?_ | refine blk_alloc ?_ _)); refine blk_put (cs := #[.int .i64 ((rd_T37 t842 (ji26)).f0), .int .i64 ((rd_T37 t842 (ji26)).f1), .int .i64 0, .int .i64 0, .int .i64 0]) ?_ 2 _ rfl; (with_reducible repeat (first | refine blk_drewN ?_ _ | refine blk_drew ?_ | refine blk_alloc ?_ _)); refine blk_put (cs := #[.int .i64 ((rd_T37 t842 (ji26)).f0), .int .i64 0, .int .i64 0, .int .i64 0, .int .i64 0]) ?_ 1 _ rfl; (with_reducible repeat (first | refine blk_drewN ?_ _ | refine blk_drew ?_ | refine blk_alloc ?_ _)); refine blk_put (cs := #[.int .i64 0, .int .i64 0, .int .i64 0, .int .i64 0, .int .i64 0]) ?_ 0 _ rfl; (with_reducible repeat (first | refine blk_drewN ?_ _ | refine blk_drew ?_ | refine blk_alloc ?_ _)); exact BK867.out))⟩; have n5_ : Aside0 (Below w.heap.size w w41) := ⟨(by rw [hw]; exact (bg_ GE867.out))⟩; clear hw; clear HO_3; clear HO_8; clear HO_18; clear HO_19; clear BK867; clear HB; have HO_3 := n0_; have HO_8 := n1_; have HO_18 := n2_; have HO_19 := n3_; have BK867 := n4_; have HB := n5_; clear n0_ n1_ n2_ n3_ n4_ n5_; have p868 : 0 ≤ ((ji29) : Int) := od_; have q868 : (ji29) < (t860.length : Int) := od_; obtain ⟨ad868, e868, hx868_0, hx868_1, hx868_2, hx868_3, hx868_4⟩ := at_T37 (Kd.R_reads' HO_18.out).2.2 (ji29) p868 q868; cases e868; replace p868 := eq_true p868; replace q868 := eq_true q868) | ((with_reducible refine gate_dst (N := 22) rfl ?_); (try (refine gate_guard (by rfl) ?_; dsimp only)); refine box_event ?hg (N := 22) ?hd (cs := #[.int .i64 0, .int .i64 0, .int .i64 0, .int .i64 0, .int .i64 0]) (t := 37) ?hr ?_; (case hd => rfl); (case hg => rfl); (case hr => first | (go_simp; done) | (go_simp; rfl)); intro gb869 hg w42 hbox hb; have n0_ := Aside0.mk (Kd.R_below (Kd.R_elderB (pe_ HO_3.out) gb869 (Nat.le_of_eq hg.symm)) hb); have n1_ := Aside0.mk (Kd.R_below (Kd.R_elderB (pe_ HO_8.out) gb869 (Nat.le_of_eq hg.symm)) hb); have n2_ := Aside0.mk (Kd.R_below (Kd.R_elderB (pe_ HO_18.out) gb869 (Nat.le_of_eq hg.symm)) hb); have n3_ := Aside0.mk (Kd.R_below (Kd.R_elderB (pe_ HO_19.out) gb869 (Nat.le_of_eq hg.symm)) hb); have n4_ := Aside0.mk (blk_below (g := gb867) (o := .cells #[.int .i64 ((rd_T37 t842 (ji26)).f0), .int .i64 ((rd_T37 t842 (ji26)).f1), .int .i64 ((rd_T37 t842 (ji26)).f2), .int .i64 ((rd_T37 t842 (ji26)).f3), .int .i64 ((rd_T37 t842 (ji26)).f4)] 37 (0, 0)) (pb_ BK867.out) hb); have n5_ := Aside0.mk (below_step (bg_ GE867.out) hb); have n6_ := Aside0.mk (hbox); have n7_ := Aside0.mk ((by rw [hg]; exact (below_size (bg_ GE867.out)) : w.heap.size ≤ gb869)); have n8_ := Aside0.mk ((by rw [hg]; exact (below_size (bg_ GE867.out)) : w.heap.size ≤ gb869)); have n9_ := Aside0.mk ((by rw [hg]; exact Nat.ne_of_lt (blk_lt (g := gb867) (o := .cells #[.int .i64 ((rd_T37 t842 (ji26)).f0), .int .i64 ((rd_T37 t842 (ji26)).f1), .int .i64 ((rd_T37 t842 (ji26)).f2), .int .i64 ((rd_T37 t842 (ji26)).f3), .int .i64 ((rd_T37 t842 (ji26)).f4)] 37 (0, 0)) (pb_ BK867.out)) : gb867 ≠ gb869)); have n10_ := Aside0.mk ((by rw [hg]; exact Nat.ne_of_gt (blk_lt (g := gb867) (o := .cells #[.int .i64 ((rd_T37 t842 (ji26)).f0), .int .i64 ((rd_T37 t842 (ji26)).f1), .int .i64 ((rd_T37 t842 (ji26)).f2), .int .i64 ((rd_T37 t842 (ji26)).f3), .int .i64 ((rd_T37 t842 (ji26)).f4)] 37 (0, 0)) (pb_ BK867.out)) : gb869 ≠ gb867)); clear HO_3; clear HO_8; clear HO_18; clear HO_19; clear BK867; clear HB; have HO_3 := n0_; have HO_8 := n1_; have HO_18 := n2_; have HO_19 := n3_; have BK867 := n4_; have HB := n5_; have BK869 := n6_; have GW869 := n7_; have GE869 := n8_; have NB867_869 := n9_; have NB869_867 := n10_; clear n0_ n1_ n2_ n3_ n4_ n5_ n6_ n7_ n8_ n9_ n10_; clear hb hbox hg; have hnb43 := NB869_867.out; have hnc43 := NB867_869.out; have hcz44_0 : w42.cell? ⟨gb869, 0, none⟩ = some (.int .i64 0) := (blk_cell BK869.out 0).trans rfl; have hcz44_1 : w42.cell? ⟨gb869, 1, none⟩ = some (.int .i64 0) := (blk_cell BK869.out 1).trans rfl; have hcz44_2 : w42.cell? ⟨gb869, 2, none⟩ = some (.int .i64 0) := (blk_cell BK869.out 2).trans rfl; have hcz44_3 : w42.cell? ⟨gb869, 3, none⟩ = some (.int .i64 0) := (blk_cell BK869.out 3).trans rfl; have hcz44_4 : w42.cell? ⟨gb869, 4, none⟩ = some (.int .i64 0) := (blk_cell BK869.out 4).trans rfl; have hfz44_0 := blk_frozen BK869.out 0; have hfz44_1 := blk_frozen BK869.out 1; have hfz44_2 := blk_frozen BK869.out 2; have hfz44_3 := blk_frozen BK869.out 3; have hfz44_4 := blk_frozen BK869.out 4) | ((with_reducible refine gate_store (t := 37) (p := 22) rfl ?_); (try (rw [drewN_self w42]; generalize hq_ : World.drewN w42 _ = w42; have n0_ := Aside0.mk (Kd.R_at hq_ HO_3.out); have n1_ := Aside0.mk (Kd.R_at hq_ HO_8.out); have n2_ := Aside0.mk (Kd.R_at hq_ HO_18.out); have n3_ := Aside0.mk (Kd.R_at hq_ HO_19.out); have n4_ := Aside0.mk (blk_at hq_ BK867.out); have n5_ := Aside0.mk (blk_at hq_ BK869.out); have n6_ := Aside0.mk (below_at hq_ HB.out); clear hq_ HO_3 HO_8 HO_18 HO_19 BK867 BK869 HB; have HO_3 := n0_; have HO_8 := n1_; have HO_18 := n2_; have HO_19 := n3_; have BK867 := n4_; have BK869 := n5_; have HB := n6_; clear n0_ n1_ n2_ n3_ n4_ n5_ n6_)); refine store_event (t := 37) (p := 22) (v := ?vo_w45) (w1 := (((((w42.setCell ⟨gb869, 0, none⟩ (.int .i64 ((rd_T37 t860 (ji29)).f0))).setCell ⟨gb869, 1, none⟩ (.int .i64 ((rd_T37 t860 (ji29)).f1))).setCell ⟨gb869, 2, none⟩ (.int .i64 ((rd_T37 t860 (ji29)).f2))).setCell ⟨gb869, 3, none⟩ (.int .i64 ((rd_T37 t860 (ji29)).f3))).setCell ⟨gb869, 4, none⟩ (.int .i64 ((rd_T37 t860 (ji29)).f4)))) ?hg ?ho ?hn ?hr ?_; (case ho => rfl); (case hg => rfl); (case hn => rfl); (case hr => first | (go_simp; done) | (go_simp; rfl)); intro w45 hw; have n0_ : Aside0 (Kd.R k37 37 w45 w.heap.size (fun k_ => some k_ ≠ (.slice (some ad866) t842.length co38 : Value).ownBlock ∧ some k_ ≠ (.slice (some ad868) t860.length co37 : Value).ownBlock ∧ some k_ ≠ (v864 : Value).ownBlock ∧ k_ ≠ gb867 ∧ k_ ≠ gb869) (.slice Ao11 t835.length co11) t835) := ⟨(by rw [hw]; exact (by (with_reducible repeat (first | apply Kd.R_alloc | apply Kd.R_drewN | apply Kd.R_drew)); exact Kd.R_mono (Kd.R_far (p := ⟨gb869, 4, none⟩) (Kd.R_far (p := ⟨gb869, 3, none⟩) (Kd.R_far (p := ⟨gb869, 2, none⟩) (Kd.R_far (p := ⟨gb869, 1, none⟩) (Kd.R_far (p := ⟨gb869, 0, none⟩) (Kd.R_mono HO_3.out (fun k_ hk => (⟨hk, hk.2⟩ : _ ∧ k_ ≠ gb869))) (fun _ hk => hk.2) (.int .i64 ((rd_T37 t860 (ji29)).f0))) (fun _ hk => hk.2) (.int .i64 ((rd_T37 t860 (ji29)).f1))) (fun _ hk => hk.2) (.int .i64 ((rd_T37 t860 (ji29)).f2))) (fun _ hk => hk.2) (.int .i64 ((rd_T37 t860 (ji29)).f3))) (fun _ hk => hk.2) (.int .i64 ((rd_T37 t860 (ji29)).f4))) (fun _ hk => ⟨hk.1.1.1, ⟨hk.1.1.2.1, ⟨hk.1.1.2.2.1, ⟨hk.1.1.2.2.2, hk.1.2⟩⟩⟩⟩)))⟩; have n1_ : Aside0 (Kd.R k37 37 w45 w.heap.size (fun k_ => some k_ ≠ (.slice Ao11 t835.length co11 : Value).ownBlock ∧ some k_ ≠ (.slice (some ad868) t860.length co37 : Value).ownBlock ∧ some k_ ≠ (v864 : Value).ownBlock ∧ k_ ≠ gb867 ∧ k_ ≠ gb869) (.slice (some ad866) t842.length co38) t842) := ⟨(by rw [hw]; exact (by (with_reducible repeat (first | apply Kd.R_alloc | apply Kd.R_drewN | apply Kd.R_drew)); exact Kd.R_mono (Kd.R_far (p := ⟨gb869, 4, none⟩) (Kd.R_far (p := ⟨gb869, 3, none⟩) (Kd.R_far (p := ⟨gb869, 2, none⟩) (Kd.R_far (p := ⟨gb869, 1, none⟩) (Kd.R_far (p := ⟨gb869, 0, none⟩) (Kd.R_mono HO_8.out (fun k_ hk => (⟨hk, hk.2⟩ : _ ∧ k_ ≠ gb869))) (fun _ hk => hk.2) (.int .i64 ((rd_T37 t860 (ji29)).f0))) (fun _ hk => hk.2) (.int .i64 ((rd_T37 t860 (ji29)).f1))) (fun _ hk => hk.2) (.int .i64 ((rd_T37 t860 (ji29)).f2))) (fun _ hk => hk.2) (.int .i64 ((rd_T37 t860 (ji29)).f3))) (fun _ hk => hk.2) (.int .i64 ((rd_T37 t860 (ji29)).f4))) (fun _ hk => ⟨hk.1.1.1, ⟨hk.1.1.2.1, ⟨hk.1.1.2.2.1, ⟨hk.1.1.2.2.2, hk.1.2⟩⟩⟩⟩)))⟩; have n2_ : Aside0 (Kd.R k37 37 w45 w.heap.size (fun k_ => some k_ ≠ (.slice Ao11 t835.length co11 : Value).ownBlock ∧ some k_ ≠ (.slice (some ad866) t842.length co38 : Value).ownBlock ∧ some k_ ≠ (v864 : Value).ownBlock ∧ k_ ≠ gb867 ∧ k_ ≠ gb869) (.slice (some ad868) t860.length co37) t860) := ⟨(by rw [hw]; exact (by (with_reducible repeat (first | apply Kd.R_alloc | apply Kd.R_drewN | apply Kd.R_drew)); exact Kd.R_mono (Kd.R_far (p := ⟨gb869, 4, none⟩) (Kd.R_far (p := ⟨gb869, 3, none⟩) (Kd.R_far (p := ⟨gb869, 2, none⟩) (Kd.R_far (p := ⟨gb869, 1, none⟩) (Kd.R_far (p := ⟨gb869, 0, none⟩) (Kd.R_mono HO_18.out (fun k_ hk => (⟨hk, hk.2⟩ : _ ∧ k_ ≠ gb869))) (fun _ hk => hk.2) (.int .i64 ((rd_T37 t860 (ji29)).f0))) (fun _ hk => hk.2) (.int .i64 ((rd_T37 t860 (ji29)).f1))) (fun _ hk => hk.2) (.int .i64 ((rd_T37 t860 (ji29)).f2))) (fun _ hk => hk.2) (.int .i64 ((rd_T37 t860 (ji29)).f3))) (fun _ hk => hk.2) (.int .i64 ((rd_T37 t860 (ji29)).f4))) (fun _ hk => ⟨hk.1.1.1, ⟨hk.1.1.2.1, ⟨hk.1.1.2.2.1, ⟨hk.1.1.2.2.2, hk.1.2⟩⟩⟩⟩)))⟩; have n3_ : Aside0 (Kd.R k37 37 w45 w.heap.size (fun k_ => some k_ ≠ (.slice Ao11 t835.length co11 : Value).ownBlock ∧ some k_ ≠ (.slice (some ad866) t842.length co38 : Value).ownBlock ∧ some k_ ≠ (.slice (some ad868) t860.length co37 : Value).ownBlock ∧ k_ ≠ gb867 ∧ k_ ≠ gb869) v864 t863) := ⟨(by rw [hw]; exact (by (with_reducible repeat (first | apply Kd.R_alloc | apply Kd.R_drewN | apply Kd.R_drew)); exact Kd.R_mono (Kd.R_far (p := ⟨gb869, 4, none⟩) (Kd.R_far (p := ⟨gb869, 3, none⟩) (Kd.R_far (p := ⟨gb869, 2, none⟩) (Kd.R_far (p := ⟨gb869, 1, none⟩) (Kd.R_far (p := ⟨gb869, 0, none⟩) (Kd.R_mono HO_19.out (fun k_ hk => (⟨hk, hk.2⟩ : _ ∧ k_ ≠ gb869))) (fun _ hk => hk.2) (.int .i64 ((rd_T37 t860 (ji29)).f0))) (fun _ hk => hk.2) (.int .i64 ((rd_T37 t860 (ji29)).f1))) (fun _ hk => hk.2) (.int .i64 ((rd_T37 t860 (ji29)).f2))) (fun _ hk => hk.2) (.int .i64 ((rd_T37 t860 (ji29)).f3))) (fun _ hk => hk.2) (.int .i64 ((rd_T37 t860 (ji29)).f4))) (fun _ hk => ⟨hk.1.1.1, ⟨hk.1.1.2.1, ⟨hk.1.1.2.2.1, ⟨hk.1.1.2.2.2, hk.1.2⟩⟩⟩⟩)))⟩; have n4_ : Aside0 (w45.heap[gb867]? = some (.cells #[.int .i64 ((rd_T37 t842 (ji26)).f0), .int .i64 ((rd_T37 t842 (ji26)).f1), .int .i64 ((rd_T37 t842 (ji26)).f2), .int .i64 ((rd_T37 t842 (ji26)).f3), .int .i64 ((rd_T37 t842 (ji26)).f4)] 37 (0, 0))) := ⟨(by rw [hw]; exact (by (with_reducible repeat (first | refine blk_drewN ?_ _ | refine blk_drew ?_ | refine blk_alloc ?_ _)); refine blk_far ?_ NB867_869.out _; (with_reducible repeat (first | refine blk_drewN ?_ _ | refine blk_drew ?_ | refine blk_alloc ?_ _)); refine blk_far ?_ NB867_869.out _; (with_reducible repeat (first | refine blk_drewN ?_ _ | refine blk_drew ?_ | refine blk_alloc ?_ _)); refine blk_far ?_ NB867_869.out _; (with_reducible repeat (first | refine blk_drewN ?_ _ | refine blk_drew ?_ | refine blk_alloc ?_ _)); refine blk_far ?_ NB867_869.out _; (with_reducible repeat (first | refine blk_drewN ?_ _ | refine blk_drew ?_ | refine blk_alloc ?_ _)); refine blk_far ?_ NB867_869.out _; (with_reducible repeat (first | refine blk_drewN ?_ _ | refine blk_drew ?_ | refine blk_alloc ?_ _)); exact BK867.out))⟩; have n5_ : Aside0 (w45.heap[gb869]? = some (.cells #[.int .i64 ((rd_T37 t860 (ji29)).f0), .int .i64 ((rd_T37 t860 (ji29)).f1), .int .i64 ((rd_T37 t860 (ji29)).f2), .int .i64 ((rd_T37 t860 (ji29)).f3), .int .i64 ((rd_T37 t860 (ji29)).f4)] 37 (0, 0))) := ⟨(by rw [hw]; exact (by (with_reducible repeat (first | refine blk_drewN ?_ _ | refine blk_drew ?_ | refine blk_alloc ?_ _)); refine blk_put (cs := #[.int .i64 ((rd_T37 t860 (ji29)).f0), .int .i64 ((rd_T37 t860 (ji29)).f1), .int .i64 ((rd_T37 t860 (ji29)).f2), .int .i64 ((rd_T37 t860 (ji29)).f3), .int .i64 0]) ?_ 4 _ rfl; (with_reducible repeat (first | refine blk_drewN ?_ _ | refine blk_drew ?_ | refine blk_alloc ?_ _)); refine blk_put (cs := #[.int .i64 ((rd_T37 t860 (ji29)).f0), .int .i64 ((rd_T37 t860 (ji29)).f1), .int .i64 ((rd_T37 t860 (ji29)).f2), .int .i64 0, .int .i64 0]) ?_ 3 _ rfl; (with_reducible repeat (first | refine blk_drewN ?_ _ | refine blk_drew ?_ | refine blk_alloc ?_ _)); refine blk_put (cs := #[.int .i64 ((rd_T37 t860 (ji29)).f0), .int .i64 ((rd_T37 t860 (ji29)).f1), .int .i64 0, .int .i64 0, .int .i64 0]) ?_ 2 _ rfl; (with_reducible repeat (first | refine blk_drewN ?_ _ | refine blk_drew ?_ | refine blk_alloc ?_ _)); refine blk_put (cs := #[.int .i64 ((rd_T37 t860 (ji29)).f0), .int .i64 0, .int .i64 0, .int .i64 0, .int .i64 0]) ?_ 1 _ rfl; (with_reducible repeat (first | refine blk_drewN ?_ _ | refine blk_drew ?_ | refine blk_alloc ?_ _)); refine blk_put (cs := #[.int .i64 0, .int .i64 0, .int .i64 0, .int .i64 0, .int .i64 0]) ?_ 0 _ rfl; (with_reducible repeat (first | refine blk_drewN ?_ _ | refine blk_drew ?_ | refine blk_alloc ?_ _)); exact BK869.out))⟩; have n6_ : Aside0 (Below w.heap.size w w45) := ⟨(by rw [hw]; exact (by repeat (first | (with_reducible first | exact HB.out | apply below_alloc | apply pw_below_drewN | apply below_drew1 | refine below_set ?_ GE867.out | refine below_set ?_ GE869.out) | exact HB.out)))⟩; clear hw; clear HO_3; clear HO_8; clear HO_18; clear HO_19; clear BK867; clear BK869; clear HB; have HO_3 := n0_; have HO_8 := n1_; have HO_18 := n2_; have HO_19 := n3_; have BK867 := n4_; have BK869 := n5_; have HB := n6_; clear n0_ n1_ n2_ n3_ n4_ n5_ n6_; have hcz46_0 : w45.cell? ⟨gb869, 0, none⟩ = some (.int .i64 ((rd_T37 t860 (ji29)).f0)) := (blk_cell BK869.out 0).trans rfl; have hcz46_1 : w45.cell? ⟨gb869, 1, none⟩ = some (.int .i64 ((rd_T37 t860 (ji29)).f1)) := (blk_cell BK869.out 1).trans rfl; have hcz46_2 : w45.cell? ⟨gb869, 2, none⟩ = some (.int .i64 ((rd_T37 t860 (ji29)).f2)) := (blk_cell BK869.out 2).trans rfl; have hcz46_3 : w45.cell? ⟨gb869, 3, none⟩ = some (.int .i64 ((rd_T37 t860 (ji29)).f3)) := (blk_cell BK869.out 3).trans rfl; have hcz46_4 : w45.cell? ⟨gb869, 4, none⟩ = some (.int .i64 ((rd_T37 t860 (ji29)).f4)) := (blk_cell BK869.out 4).trans rfl; have hfz46_0 := blk_frozen BK869.out 0; have hfz46_1 := blk_frozen BK869.out 1; have hfz46_2 := blk_frozen BK869.out 2; have hfz46_3 := blk_frozen BK869.out 3; have hfz46_4 := blk_frozen BK869.out 4; have hcz47_0 : w45.cell? ⟨gb867, 0, none⟩ = some (.int .i64 ((rd_T37 t842 (ji26)).f0)) := (blk_cell BK867.out 0).trans rfl; have hcz47_1 : w45.cell? ⟨gb867, 1, none⟩ = some (.int .i64 ((rd_T37 t842 (ji26)).f1)) := (blk_cell BK867.out 1).trans rfl; have hcz47_2 : w45.cell? ⟨gb867, 2, none⟩ = some (.int .i64 ((rd_T37 t842 (ji26)).f2)) := (blk_cell BK867.out 2).trans rfl; have hcz47_3 : w45.cell? ⟨gb867, 3, none⟩ = some (.int .i64 ((rd_T37 t842 (ji26)).f3)) := (blk_cell BK867.out 3).trans rfl; have hcz47_4 : w45.cell? ⟨gb867, 4, none⟩ = some (.int .i64 ((rd_T37 t842 (ji26)).f4)) := (blk_cell BK867.out 4).trans rfl; have hfz47_0 := blk_frozen BK867.out 0; have hfz47_1 := blk_frozen BK867.out 1; have hfz47_2 := blk_frozen BK867.out 2; have hfz47_3 := blk_frozen BK867.out 3; have hfz47_4 := blk_frozen BK867.out 4))
                  repeat (go_quiet (fail); try go_wp2)
                  go_roundg k2
                  case measure => have := HJ8.out; have := HK2.out; omega
                  case rel => exact ⟨(wrap64 (x20_2 + 1)), (by first | rfl | (simp; done) | (simp [*]; done)), H', ⟨by have := HJ8.out; have := HK2.out; omega⟩, ⟨by (with_reducible repeat (first | apply Kd.R_alloc | apply Kd.R_drewN | apply Kd.R_drew)); exact Kd.R_mono HO_3.out (fun _ hk => ⟨hk.1, ⟨hk.2.1, hk.2.2.1⟩⟩)⟩, ⟨by (with_reducible repeat (first | apply Kd.R_alloc | apply Kd.R_drewN | apply Kd.R_drew)); exact Kd.R_mono HO_8.out (fun _ hk => ⟨hk.1, ⟨hk.2.1, hk.2.2.1⟩⟩)⟩, ⟨by (with_reducible repeat (first | apply Kd.R_alloc | apply Kd.R_drewN | apply Kd.R_drew)); exact Kd.R_mono HO_18.out (fun _ hk => ⟨hk.1, ⟨hk.2.1, hk.2.2.1⟩⟩)⟩, ⟨by (with_reducible repeat (first | apply Kd.R_alloc | apply Kd.R_drewN | apply Kd.R_drew)); exact Kd.R_mono HO_19.out (fun _ hk => ⟨hk.1, ⟨hk.2.1, hk.2.2.1⟩⟩)⟩, ⟨by repeat (first | (with_reducible first | exact HB.out | apply below_alloc | apply pw_below_drewN | apply below_drew1 | refine below_set ?_ GE867.out | refine below_set ?_ GE869.out) | exact HB.out)⟩⟩
              ·
               rw [if_neg c33] at H
               have c33b0 : decide (x20_2 < (wrap64 ((t860.length : Int) - 1))) = false := decide_eq_false c33
               clear c33
               by_cases c48 : ((rd_T37 t860 (ji29)).f3) > ((rd_T37 t842 (ji26)).f3)
               ·
                rw [if_pos c48] at H
                exact absurd H (by simp)
               ·
                rw [if_neg c48] at H
                have c48b0 : decide (((rd_T37 t842 (ji26)).f3) < ((rd_T37 t860 (ji29)).f3)) = false := decide_eq_false c48
                clear c48
                by_cases c49 : ((rd_T37 t860 (ji29)).f4) > ((rd_T37 t842 (ji26)).f4)
                ·
                 rw [if_pos c49] at H
                 exact absurd H (by simp)
                ·
                 rw [if_neg c49] at H
                 have c49b0 : decide (((rd_T37 t842 (ji26)).f4) < ((rd_T37 t860 (ji29)).f4)) = false := decide_eq_false c49
                 clear c49
                 have H' := Aside0.mk H
                 clear H
                 obtain ⟨Ao50, co50, eo50⟩ := Kd.R_slice HO_18.out
                 subst eo50
                 obtain ⟨Ao51, co51, eo51⟩ := Kd.R_slice HO_8.out
                 subst eo51
                 have p866 : 0 ≤ ((ji26) : Int) := od_
                 have q866 : (ji26) < (t842.length : Int) := od_
                 obtain ⟨ad866, e866, hx866_0, hx866_1, hx866_2, hx866_3, hx866_4⟩ := at_T37 (Kd.R_reads' HO_8.out).2.2 (ji26) p866 q866
                 cases e866
                 replace p866 := eq_true p866
                 replace q866 := eq_true q866
                 go_wp2_with (first | ((with_reducible refine gate_dst (N := 21) rfl ?_); (try (refine gate_guard (by rfl) ?_; dsimp only)); refine box_event ?hg (N := 21) ?hd (cs := #[.int .i64 0, .int .i64 0, .int .i64 0, .int .i64 0, .int .i64 0]) (t := 37) ?hr ?_; (case hd => rfl); (case hg => rfl); (case hr => first | (go_simp; done) | (go_simp; rfl)); intro gb867 hg w52 hbox hb; have n0_ := Aside0.mk (Kd.R_below (Kd.R_elderB (pe_ HO_3.out) gb867 (Nat.le_of_eq hg.symm)) hb); have n1_ := Aside0.mk (Kd.R_below (Kd.R_elderB (pe_ HO_8.out) gb867 (Nat.le_of_eq hg.symm)) hb); have n2_ := Aside0.mk (Kd.R_below (Kd.R_elderB (pe_ HO_18.out) gb867 (Nat.le_of_eq hg.symm)) hb); have n3_ := Aside0.mk (Kd.R_below (Kd.R_elderB (pe_ HO_19.out) gb867 (Nat.le_of_eq hg.symm)) hb); have n4_ := Aside0.mk (below_step (bb_) hb); have n5_ := Aside0.mk (hbox); have n6_ := Aside0.mk ((by rw [hg]; exact (below_size (bb_)) : w.heap.size ≤ gb867)); have n7_ := Aside0.mk ((by rw [hg]; exact (below_size (bb_)) : w.heap.size ≤ gb867)); clear HO_3; clear HO_8; clear HO_18; clear HO_19; clear HB; have HO_3 := n0_; have HO_8 := n1_; have HO_18 := n2_; have HO_19 := n3_; have HB := n4_; have BK867 := n5_; have GW867 := n6_; have GE867 := n7_; clear n0_ n1_ n2_ n3_ n4_ n5_ n6_ n7_; clear hb hbox hg; have hcz53_0 : w52.cell? ⟨gb867, 0, none⟩ = some (.int .i64 0) := (blk_cell BK867.out 0).trans rfl; have hcz53_1 : w52.cell? ⟨gb867, 1, none⟩ = some (.int .i64 0) := (blk_cell BK867.out 1).trans rfl; have hcz53_2 : w52.cell? ⟨gb867, 2, none⟩ = some (.int .i64 0) := (blk_cell BK867.out 2).trans rfl; have hcz53_3 : w52.cell? ⟨gb867, 3, none⟩ = some (.int .i64 0) := (blk_cell BK867.out 3).trans rfl; have hcz53_4 : w52.cell? ⟨gb867, 4, none⟩ = some (.int .i64 0) := (blk_cell BK867.out 4).trans rfl; have hfz53_0 := blk_frozen BK867.out 0; have hfz53_1 := blk_frozen BK867.out 1; have hfz53_2 := blk_frozen BK867.out 2; have hfz53_3 := blk_frozen BK867.out 3; have hfz53_4 := blk_frozen BK867.out 4) | ((with_reducible refine gate_store (t := 37) (p := 21) rfl ?_); (try (rw [drewN_self w52]; generalize hq_ : World.drewN w52 _ = w52; have n0_ := Aside0.mk (Kd.R_at hq_ HO_3.out); have n1_ := Aside0.mk (Kd.R_at hq_ HO_8.out); have n2_ := Aside0.mk (Kd.R_at hq_ HO_18.out); have n3_ := Aside0.mk (Kd.R_at hq_ HO_19.out); have n4_ := Aside0.mk (blk_at hq_ BK867.out); have n5_ := Aside0.mk (below_at hq_ HB.out); clear hq_ HO_3 HO_8 HO_18 HO_19 BK867 HB; have HO_3 := n0_; have HO_8 := n1_; have HO_18 := n2_; have HO_19 := n3_; have BK867 := n4_; have HB := n5_; clear n0_ n1_ n2_ n3_ n4_ n5_)); refine store_event (t := 37) (p := 21) (v := ?vo_w54) (w1 := (((((w52.setCell ⟨gb867, 0, none⟩ (.int .i64 ((rd_T37 t842 (ji26)).f0))).setCell ⟨gb867, 1, none⟩ (.int .i64 ((rd_T37 t842 (ji26)).f1))).setCell ⟨gb867, 2, none⟩ (.int .i64 ((rd_T37 t842 (ji26)).f2))).setCell ⟨gb867, 3, none⟩ (.int .i64 ((rd_T37 t842 (ji26)).f3))).setCell ⟨gb867, 4, none⟩ (.int .i64 ((rd_T37 t842 (ji26)).f4)))) ?hg ?ho ?hn ?hr ?_; (case ho => rfl); (case hg => rfl); (case hn => rfl); (case hr => first | (go_simp; done) | (go_simp; rfl)); intro w54 hw; have n0_ : Aside0 (Kd.R k37 37 w54 w.heap.size (fun k_ => some k_ ≠ (.slice (some ad866) t842.length co51 : Value).ownBlock ∧ some k_ ≠ (.slice Ao50 t860.length co50 : Value).ownBlock ∧ some k_ ≠ (v864 : Value).ownBlock ∧ k_ ≠ gb867) (.slice Ao11 t835.length co11) t835) := ⟨(by rw [hw]; exact (by (with_reducible repeat (first | apply Kd.R_alloc | apply Kd.R_drewN | apply Kd.R_drew)); exact Kd.R_mono (Kd.R_far (p := ⟨gb867, 4, none⟩) (Kd.R_far (p := ⟨gb867, 3, none⟩) (Kd.R_far (p := ⟨gb867, 2, none⟩) (Kd.R_far (p := ⟨gb867, 1, none⟩) (Kd.R_far (p := ⟨gb867, 0, none⟩) (Kd.R_mono HO_3.out (fun k_ hk => (⟨hk, hk.2⟩ : _ ∧ k_ ≠ gb867))) (fun _ hk => hk.2) (.int .i64 ((rd_T37 t842 (ji26)).f0))) (fun _ hk => hk.2) (.int .i64 ((rd_T37 t842 (ji26)).f1))) (fun _ hk => hk.2) (.int .i64 ((rd_T37 t842 (ji26)).f2))) (fun _ hk => hk.2) (.int .i64 ((rd_T37 t842 (ji26)).f3))) (fun _ hk => hk.2) (.int .i64 ((rd_T37 t842 (ji26)).f4))) (fun _ hk => ⟨hk.1.1.1, ⟨hk.1.1.2.1, ⟨hk.1.1.2.2, hk.1.2⟩⟩⟩)))⟩; have n1_ : Aside0 (Kd.R k37 37 w54 w.heap.size (fun k_ => some k_ ≠ (.slice Ao11 t835.length co11 : Value).ownBlock ∧ some k_ ≠ (.slice Ao50 t860.length co50 : Value).ownBlock ∧ some k_ ≠ (v864 : Value).ownBlock ∧ k_ ≠ gb867) (.slice (some ad866) t842.length co51) t842) := ⟨(by rw [hw]; exact (by (with_reducible repeat (first | apply Kd.R_alloc | apply Kd.R_drewN | apply Kd.R_drew)); exact Kd.R_mono (Kd.R_far (p := ⟨gb867, 4, none⟩) (Kd.R_far (p := ⟨gb867, 3, none⟩) (Kd.R_far (p := ⟨gb867, 2, none⟩) (Kd.R_far (p := ⟨gb867, 1, none⟩) (Kd.R_far (p := ⟨gb867, 0, none⟩) (Kd.R_mono HO_8.out (fun k_ hk => (⟨hk, hk.2⟩ : _ ∧ k_ ≠ gb867))) (fun _ hk => hk.2) (.int .i64 ((rd_T37 t842 (ji26)).f0))) (fun _ hk => hk.2) (.int .i64 ((rd_T37 t842 (ji26)).f1))) (fun _ hk => hk.2) (.int .i64 ((rd_T37 t842 (ji26)).f2))) (fun _ hk => hk.2) (.int .i64 ((rd_T37 t842 (ji26)).f3))) (fun _ hk => hk.2) (.int .i64 ((rd_T37 t842 (ji26)).f4))) (fun _ hk => ⟨hk.1.1.1, ⟨hk.1.1.2.1, ⟨hk.1.1.2.2, hk.1.2⟩⟩⟩)))⟩; have n2_ : Aside0 (Kd.R k37 37 w54 w.heap.size (fun k_ => some k_ ≠ (.slice Ao11 t835.length co11 : Value).ownBlock ∧ some k_ ≠ (.slice (some ad866) t842.length co51 : Value).ownBlock ∧ some k_ ≠ (v864 : Value).ownBlock ∧ k_ ≠ gb867) (.slice Ao50 t860.length co50) t860) := ⟨(by rw [hw]; exact (by (with_reducible repeat (first | apply Kd.R_alloc | apply Kd.R_drewN | apply Kd.R_drew)); exact Kd.R_mono (Kd.R_far (p := ⟨gb867, 4, none⟩) (Kd.R_far (p := ⟨gb867, 3, none⟩) (Kd.R_far (p := ⟨gb867, 2, none⟩) (Kd.R_far (p := ⟨gb867, 1, none⟩) (Kd.R_far (p := ⟨gb867, 0, none⟩) (Kd.R_mono HO_18.out (fun k_ hk => (⟨hk, hk.2⟩ : _ ∧ k_ ≠ gb867))) (fun _ hk => hk.2) (.int .i64 ((rd_T37 t842 (ji26)).f0))) (fun _ hk => hk.2) (.int .i64 ((rd_T37 t842 (ji26)).f1))) (fun _ hk => hk.2) (.int .i64 ((rd_T37 t842 (ji26)).f2))) (fun _ hk => hk.2) (.int .i64 ((rd_T37 t842 (ji26)).f3))) (fun _ hk => hk.2) (.int .i64 ((rd_T37 t842 (ji26)).f4))) (fun _ hk => ⟨hk.1.1.1, ⟨hk.1.1.2.1, ⟨hk.1.1.2.2, hk.1.2⟩⟩⟩)))⟩; have n3_ : Aside0 (Kd.R k37 37 w54 w.heap.size (fun k_ => some k_ ≠ (.slice Ao11 t835.length co11 : Value).ownBlock ∧ some k_ ≠ (.slice (some ad866) t842.length co51 : Value).ownBlock ∧ some k_ ≠ (.slice Ao50 t860.length co50 : Value).ownBlock ∧ k_ ≠ gb867) v864 t863) := ⟨(by rw [hw]; exact (by (with_reducible repeat (first | apply Kd.R_alloc | apply Kd.R_drewN | apply Kd.R_drew)); exact Kd.R_mono (Kd.R_far (p := ⟨gb867, 4, none⟩) (Kd.R_far (p := ⟨gb867, 3, none⟩) (Kd.R_far (p := ⟨gb867, 2, none⟩) (Kd.R_far (p := ⟨gb867, 1, none⟩) (Kd.R_far (p := ⟨gb867, 0, none⟩) (Kd.R_mono HO_19.out (fun k_ hk => (⟨hk, hk.2⟩ : _ ∧ k_ ≠ gb867))) (fun _ hk => hk.2) (.int .i64 ((rd_T37 t842 (ji26)).f0))) (fun _ hk => hk.2) (.int .i64 ((rd_T37 t842 (ji26)).f1))) (fun _ hk => hk.2) (.int .i64 ((rd_T37 t842 (ji26)).f2))) (fun _ hk => hk.2) (.int .i64 ((rd_T37 t842 (ji26)).f3))) (fun _ hk => hk.2) (.int .i64 ((rd_T37 t842 (ji26)).f4))) (fun _ hk => ⟨hk.1.1.1, ⟨hk.1.1.2.1, ⟨hk.1.1.2.2, hk.1.2⟩⟩⟩)))⟩; have n4_ : Aside0 (w54.heap[gb867]? = some (.cells #[.int .i64 ((rd_T37 t842 (ji26)).f0), .int .i64 ((rd_T37 t842 (ji26)).f1), .int .i64 ((rd_T37 t842 (ji26)).f2), .int .i64 ((rd_T37 t842 (ji26)).f3), .int .i64 ((rd_T37 t842 (ji26)).f4)] 37 (0, 0))) := ⟨(by rw [hw]; exact (by (with_reducible repeat (first | refine blk_drewN ?_ _ | refine blk_drew ?_ | refine blk_alloc ?_ _)); refine blk_put (cs := #[.int .i64 ((rd_T37 t842 (ji26)).f0), .int .i64 ((rd_T37 t842 (ji26)).f1), .int .i64 ((rd_T37 t842 (ji26)).f2), .int .i64 ((rd_T37 t842 (ji26)).f3), .int .i64 0]) ?_ 4 _ rfl; (with_reducible repeat (first | refine blk_drewN ?_ _ | refine blk_drew ?_ | refine blk_alloc ?_ _)); refine blk_put (cs := #[.int .i64 ((rd_T37 t842 (ji26)).f0), .int .i64 ((rd_T37 t842 (ji26)).f1), .int .i64 ((rd_T37 t842 (ji26)).f2), .int .i64 0, .int .i64 0]) ?_ 3 _ rfl; (with_reducible repeat (first | refine blk_drewN ?_ _ | refine blk_drew ?_ | refine blk_alloc ?_ _)); refine blk_put (cs := #[.int .i64 ((rd_T37 t842 (ji26)).f0), .int .i64 ((rd_T37 t842 (ji26)).f1), .int .i64 0, .int .i64 0, .int .i64 0]) ?_ 2 _ rfl; (with_reducible repeat (first | refine blk_drewN ?_ _ | refine blk_drew ?_ | refine blk_alloc ?_ _)); refine blk_put (cs := #[.int .i64 ((rd_T37 t842 (ji26)).f0), .int .i64 0, .int .i64 0, .int .i64 0, .int .i64 0]) ?_ 1 _ rfl; (with_reducible repeat (first | refine blk_drewN ?_ _ | refine blk_drew ?_ | refine blk_alloc ?_ _)); refine blk_put (cs := #[.int .i64 0, .int .i64 0, .int .i64 0, .int .i64 0, .int .i64 0]) ?_ 0 _ rfl; (with_reducible repeat (first | refine blk_drewN ?_ _ | refine blk_drew ?_ | refine blk_alloc ?_ _)); exact BK867.out))⟩; have n5_ : Aside0 (Below w.heap.size w w54) := ⟨(by rw [hw]; exact (bg_ GE867.out))⟩; clear hw; clear HO_3; clear HO_8; clear HO_18; clear HO_19; clear BK867; clear HB; have HO_3 := n0_; have HO_8 := n1_; have HO_18 := n2_; have HO_19 := n3_; have BK867 := n4_; have HB := n5_; clear n0_ n1_ n2_ n3_ n4_ n5_; have p868 : 0 ≤ ((ji29) : Int) := od_; have q868 : (ji29) < (t860.length : Int) := od_; obtain ⟨ad868, e868, hx868_0, hx868_1, hx868_2, hx868_3, hx868_4⟩ := at_T37 (Kd.R_reads' HO_18.out).2.2 (ji29) p868 q868; cases e868; replace p868 := eq_true p868; replace q868 := eq_true q868) | ((with_reducible refine gate_dst (N := 22) rfl ?_); (try (refine gate_guard (by rfl) ?_; dsimp only)); refine box_event ?hg (N := 22) ?hd (cs := #[.int .i64 0, .int .i64 0, .int .i64 0, .int .i64 0, .int .i64 0]) (t := 37) ?hr ?_; (case hd => rfl); (case hg => rfl); (case hr => first | (go_simp; done) | (go_simp; rfl)); intro gb869 hg w55 hbox hb; have n0_ := Aside0.mk (Kd.R_below (Kd.R_elderB (pe_ HO_3.out) gb869 (Nat.le_of_eq hg.symm)) hb); have n1_ := Aside0.mk (Kd.R_below (Kd.R_elderB (pe_ HO_8.out) gb869 (Nat.le_of_eq hg.symm)) hb); have n2_ := Aside0.mk (Kd.R_below (Kd.R_elderB (pe_ HO_18.out) gb869 (Nat.le_of_eq hg.symm)) hb); have n3_ := Aside0.mk (Kd.R_below (Kd.R_elderB (pe_ HO_19.out) gb869 (Nat.le_of_eq hg.symm)) hb); have n4_ := Aside0.mk (blk_below (g := gb867) (o := .cells #[.int .i64 ((rd_T37 t842 (ji26)).f0), .int .i64 ((rd_T37 t842 (ji26)).f1), .int .i64 ((rd_T37 t842 (ji26)).f2), .int .i64 ((rd_T37 t842 (ji26)).f3), .int .i64 ((rd_T37 t842 (ji26)).f4)] 37 (0, 0)) (pb_ BK867.out) hb); have n5_ := Aside0.mk (below_step (bg_ GE867.out) hb); have n6_ := Aside0.mk (hbox); have n7_ := Aside0.mk ((by rw [hg]; exact (below_size (bg_ GE867.out)) : w.heap.size ≤ gb869)); have n8_ := Aside0.mk ((by rw [hg]; exact (below_size (bg_ GE867.out)) : w.heap.size ≤ gb869)); have n9_ := Aside0.mk ((by rw [hg]; exact Nat.ne_of_lt (blk_lt (g := gb867) (o := .cells #[.int .i64 ((rd_T37 t842 (ji26)).f0), .int .i64 ((rd_T37 t842 (ji26)).f1), .int .i64 ((rd_T37 t842 (ji26)).f2), .int .i64 ((rd_T37 t842 (ji26)).f3), .int .i64 ((rd_T37 t842 (ji26)).f4)] 37 (0, 0)) (pb_ BK867.out)) : gb867 ≠ gb869)); have n10_ := Aside0.mk ((by rw [hg]; exact Nat.ne_of_gt (blk_lt (g := gb867) (o := .cells #[.int .i64 ((rd_T37 t842 (ji26)).f0), .int .i64 ((rd_T37 t842 (ji26)).f1), .int .i64 ((rd_T37 t842 (ji26)).f2), .int .i64 ((rd_T37 t842 (ji26)).f3), .int .i64 ((rd_T37 t842 (ji26)).f4)] 37 (0, 0)) (pb_ BK867.out)) : gb869 ≠ gb867)); clear HO_3; clear HO_8; clear HO_18; clear HO_19; clear BK867; clear HB; have HO_3 := n0_; have HO_8 := n1_; have HO_18 := n2_; have HO_19 := n3_; have BK867 := n4_; have HB := n5_; have BK869 := n6_; have GW869 := n7_; have GE869 := n8_; have NB867_869 := n9_; have NB869_867 := n10_; clear n0_ n1_ n2_ n3_ n4_ n5_ n6_ n7_ n8_ n9_ n10_; clear hb hbox hg; have hnb56 := NB869_867.out; have hnc56 := NB867_869.out; have hcz57_0 : w55.cell? ⟨gb869, 0, none⟩ = some (.int .i64 0) := (blk_cell BK869.out 0).trans rfl; have hcz57_1 : w55.cell? ⟨gb869, 1, none⟩ = some (.int .i64 0) := (blk_cell BK869.out 1).trans rfl; have hcz57_2 : w55.cell? ⟨gb869, 2, none⟩ = some (.int .i64 0) := (blk_cell BK869.out 2).trans rfl; have hcz57_3 : w55.cell? ⟨gb869, 3, none⟩ = some (.int .i64 0) := (blk_cell BK869.out 3).trans rfl; have hcz57_4 : w55.cell? ⟨gb869, 4, none⟩ = some (.int .i64 0) := (blk_cell BK869.out 4).trans rfl; have hfz57_0 := blk_frozen BK869.out 0; have hfz57_1 := blk_frozen BK869.out 1; have hfz57_2 := blk_frozen BK869.out 2; have hfz57_3 := blk_frozen BK869.out 3; have hfz57_4 := blk_frozen BK869.out 4) | ((with_reducible refine gate_store (t := 37) (p := 22) rfl ?_); (try (rw [drewN_self w55]; generalize hq_ : World.drewN w55 _ = w55; have n0_ := Aside0.mk (Kd.R_at hq_ HO_3.out); have n1_ := Aside0.mk (Kd.R_at hq_ HO_8.out); have n2_ := Aside0.mk (Kd.R_at hq_ HO_18.out); have n3_ := Aside0.mk (Kd.R_at hq_ HO_19.out); have n4_ := Aside0.mk (blk_at hq_ BK867.out); have n5_ := Aside0.mk (blk_at hq_ BK869.out); have n6_ := Aside0.mk (below_at hq_ HB.out); clear hq_ HO_3 HO_8 HO_18 HO_19 BK867 BK869 HB; have HO_3 := n0_; have HO_8 := n1_; have HO_18 := n2_; have HO_19 := n3_; have BK867 := n4_; have BK869 := n5_; have HB := n6_; clear n0_ n1_ n2_ n3_ n4_ n5_ n6_)); refine store_event (t := 37) (p := 22) (v := ?vo_w58) (w1 := (((((w55.setCell ⟨gb869, 0, none⟩ (.int .i64 ((rd_T37 t860 (ji29)).f0))).setCell ⟨gb869, 1, none⟩ (.int .i64 ((rd_T37 t860 (ji29)).f1))).setCell ⟨gb869, 2, none⟩ (.int .i64 ((rd_T37 t860 (ji29)).f2))).setCell ⟨gb869, 3, none⟩ (.int .i64 ((rd_T37 t860 (ji29)).f3))).setCell ⟨gb869, 4, none⟩ (.int .i64 ((rd_T37 t860 (ji29)).f4)))) ?hg ?ho ?hn ?hr ?_; (case ho => rfl); (case hg => rfl); (case hn => rfl); (case hr => first | (go_simp; done) | (go_simp; rfl)); intro w58 hw; have n0_ : Aside0 (Kd.R k37 37 w58 w.heap.size (fun k_ => some k_ ≠ (.slice (some ad866) t842.length co51 : Value).ownBlock ∧ some k_ ≠ (.slice (some ad868) t860.length co50 : Value).ownBlock ∧ some k_ ≠ (v864 : Value).ownBlock ∧ k_ ≠ gb867 ∧ k_ ≠ gb869) (.slice Ao11 t835.length co11) t835) := ⟨(by rw [hw]; exact (by (with_reducible repeat (first | apply Kd.R_alloc | apply Kd.R_drewN | apply Kd.R_drew)); exact Kd.R_mono (Kd.R_far (p := ⟨gb869, 4, none⟩) (Kd.R_far (p := ⟨gb869, 3, none⟩) (Kd.R_far (p := ⟨gb869, 2, none⟩) (Kd.R_far (p := ⟨gb869, 1, none⟩) (Kd.R_far (p := ⟨gb869, 0, none⟩) (Kd.R_mono HO_3.out (fun k_ hk => (⟨hk, hk.2⟩ : _ ∧ k_ ≠ gb869))) (fun _ hk => hk.2) (.int .i64 ((rd_T37 t860 (ji29)).f0))) (fun _ hk => hk.2) (.int .i64 ((rd_T37 t860 (ji29)).f1))) (fun _ hk => hk.2) (.int .i64 ((rd_T37 t860 (ji29)).f2))) (fun _ hk => hk.2) (.int .i64 ((rd_T37 t860 (ji29)).f3))) (fun _ hk => hk.2) (.int .i64 ((rd_T37 t860 (ji29)).f4))) (fun _ hk => ⟨hk.1.1.1, ⟨hk.1.1.2.1, ⟨hk.1.1.2.2.1, ⟨hk.1.1.2.2.2, hk.1.2⟩⟩⟩⟩)))⟩; have n1_ : Aside0 (Kd.R k37 37 w58 w.heap.size (fun k_ => some k_ ≠ (.slice Ao11 t835.length co11 : Value).ownBlock ∧ some k_ ≠ (.slice (some ad868) t860.length co50 : Value).ownBlock ∧ some k_ ≠ (v864 : Value).ownBlock ∧ k_ ≠ gb867 ∧ k_ ≠ gb869) (.slice (some ad866) t842.length co51) t842) := ⟨(by rw [hw]; exact (by (with_reducible repeat (first | apply Kd.R_alloc | apply Kd.R_drewN | apply Kd.R_drew)); exact Kd.R_mono (Kd.R_far (p := ⟨gb869, 4, none⟩) (Kd.R_far (p := ⟨gb869, 3, none⟩) (Kd.R_far (p := ⟨gb869, 2, none⟩) (Kd.R_far (p := ⟨gb869, 1, none⟩) (Kd.R_far (p := ⟨gb869, 0, none⟩) (Kd.R_mono HO_8.out (fun k_ hk => (⟨hk, hk.2⟩ : _ ∧ k_ ≠ gb869))) (fun _ hk => hk.2) (.int .i64 ((rd_T37 t860 (ji29)).f0))) (fun _ hk => hk.2) (.int .i64 ((rd_T37 t860 (ji29)).f1))) (fun _ hk => hk.2) (.int .i64 ((rd_T37 t860 (ji29)).f2))) (fun _ hk => hk.2) (.int .i64 ((rd_T37 t860 (ji29)).f3))) (fun _ hk => hk.2) (.int .i64 ((rd_T37 t860 (ji29)).f4))) (fun _ hk => ⟨hk.1.1.1, ⟨hk.1.1.2.1, ⟨hk.1.1.2.2.1, ⟨hk.1.1.2.2.2, hk.1.2⟩⟩⟩⟩)))⟩; have n2_ : Aside0 (Kd.R k37 37 w58 w.heap.size (fun k_ => some k_ ≠ (.slice Ao11 t835.length co11 : Value).ownBlock ∧ some k_ ≠ (.slice (some ad866) t842.length co51 : Value).ownBlock ∧ some k_ ≠ (v864 : Value).ownBlock ∧ k_ ≠ gb867 ∧ k_ ≠ gb869) (.slice (some ad868) t860.length co50) t860) := ⟨(by rw [hw]; exact (by (with_reducible repeat (first | apply Kd.R_alloc | apply Kd.R_drewN | apply Kd.R_drew)); exact Kd.R_mono (Kd.R_far (p := ⟨gb869, 4, none⟩) (Kd.R_far (p := ⟨gb869, 3, none⟩) (Kd.R_far (p := ⟨gb869, 2, none⟩) (Kd.R_far (p := ⟨gb869, 1, none⟩) (Kd.R_far (p := ⟨gb869, 0, none⟩) (Kd.R_mono HO_18.out (fun k_ hk => (⟨hk, hk.2⟩ : _ ∧ k_ ≠ gb869))) (fun _ hk => hk.2) (.int .i64 ((rd_T37 t860 (ji29)).f0))) (fun _ hk => hk.2) (.int .i64 ((rd_T37 t860 (ji29)).f1))) (fun _ hk => hk.2) (.int .i64 ((rd_T37 t860 (ji29)).f2))) (fun _ hk => hk.2) (.int .i64 ((rd_T37 t860 (ji29)).f3))) (fun _ hk => hk.2) (.int .i64 ((rd_T37 t860 (ji29)).f4))) (fun _ hk => ⟨hk.1.1.1, ⟨hk.1.1.2.1, ⟨hk.1.1.2.2.1, ⟨hk.1.1.2.2.2, hk.1.2⟩⟩⟩⟩)))⟩; have n3_ : Aside0 (Kd.R k37 37 w58 w.heap.size (fun k_ => some k_ ≠ (.slice Ao11 t835.length co11 : Value).ownBlock ∧ some k_ ≠ (.slice (some ad866) t842.length co51 : Value).ownBlock ∧ some k_ ≠ (.slice (some ad868) t860.length co50 : Value).ownBlock ∧ k_ ≠ gb867 ∧ k_ ≠ gb869) v864 t863) := ⟨(by rw [hw]; exact (by (with_reducible repeat (first | apply Kd.R_alloc | apply Kd.R_drewN | apply Kd.R_drew)); exact Kd.R_mono (Kd.R_far (p := ⟨gb869, 4, none⟩) (Kd.R_far (p := ⟨gb869, 3, none⟩) (Kd.R_far (p := ⟨gb869, 2, none⟩) (Kd.R_far (p := ⟨gb869, 1, none⟩) (Kd.R_far (p := ⟨gb869, 0, none⟩) (Kd.R_mono HO_19.out (fun k_ hk => (⟨hk, hk.2⟩ : _ ∧ k_ ≠ gb869))) (fun _ hk => hk.2) (.int .i64 ((rd_T37 t860 (ji29)).f0))) (fun _ hk => hk.2) (.int .i64 ((rd_T37 t860 (ji29)).f1))) (fun _ hk => hk.2) (.int .i64 ((rd_T37 t860 (ji29)).f2))) (fun _ hk => hk.2) (.int .i64 ((rd_T37 t860 (ji29)).f3))) (fun _ hk => hk.2) (.int .i64 ((rd_T37 t860 (ji29)).f4))) (fun _ hk => ⟨hk.1.1.1, ⟨hk.1.1.2.1, ⟨hk.1.1.2.2.1, ⟨hk.1.1.2.2.2, hk.1.2⟩⟩⟩⟩)))⟩; have n4_ : Aside0 (w58.heap[gb867]? = some (.cells #[.int .i64 ((rd_T37 t842 (ji26)).f0), .int .i64 ((rd_T37 t842 (ji26)).f1), .int .i64 ((rd_T37 t842 (ji26)).f2), .int .i64 ((rd_T37 t842 (ji26)).f3), .int .i64 ((rd_T37 t842 (ji26)).f4)] 37 (0, 0))) := ⟨(by rw [hw]; exact (by (with_reducible repeat (first | refine blk_drewN ?_ _ | refine blk_drew ?_ | refine blk_alloc ?_ _)); refine blk_far ?_ NB867_869.out _; (with_reducible repeat (first | refine blk_drewN ?_ _ | refine blk_drew ?_ | refine blk_alloc ?_ _)); refine blk_far ?_ NB867_869.out _; (with_reducible repeat (first | refine blk_drewN ?_ _ | refine blk_drew ?_ | refine blk_alloc ?_ _)); refine blk_far ?_ NB867_869.out _; (with_reducible repeat (first | refine blk_drewN ?_ _ | refine blk_drew ?_ | refine blk_alloc ?_ _)); refine blk_far ?_ NB867_869.out _; (with_reducible repeat (first | refine blk_drewN ?_ _ | refine blk_drew ?_ | refine blk_alloc ?_ _)); refine blk_far ?_ NB867_869.out _; (with_reducible repeat (first | refine blk_drewN ?_ _ | refine blk_drew ?_ | refine blk_alloc ?_ _)); exact BK867.out))⟩; have n5_ : Aside0 (w58.heap[gb869]? = some (.cells #[.int .i64 ((rd_T37 t860 (ji29)).f0), .int .i64 ((rd_T37 t860 (ji29)).f1), .int .i64 ((rd_T37 t860 (ji29)).f2), .int .i64 ((rd_T37 t860 (ji29)).f3), .int .i64 ((rd_T37 t860 (ji29)).f4)] 37 (0, 0))) := ⟨(by rw [hw]; exact (by (with_reducible repeat (first | refine blk_drewN ?_ _ | refine blk_drew ?_ | refine blk_alloc ?_ _)); refine blk_put (cs := #[.int .i64 ((rd_T37 t860 (ji29)).f0), .int .i64 ((rd_T37 t860 (ji29)).f1), .int .i64 ((rd_T37 t860 (ji29)).f2), .int .i64 ((rd_T37 t860 (ji29)).f3), .int .i64 0]) ?_ 4 _ rfl; (with_reducible repeat (first | refine blk_drewN ?_ _ | refine blk_drew ?_ | refine blk_alloc ?_ _)); refine blk_put (cs := #[.int .i64 ((rd_T37 t860 (ji29)).f0), .int .i64 ((rd_T37 t860 (ji29)).f1), .int .i64 ((rd_T37 t860 (ji29)).f2), .int .i64 0, .int .i64 0]) ?_ 3 _ rfl; (with_reducible repeat (first | refine blk_drewN ?_ _ | refine blk_drew ?_ | refine blk_alloc ?_ _)); refine blk_put (cs := #[.int .i64 ((rd_T37 t860 (ji29)).f0), .int .i64 ((rd_T37 t860 (ji29)).f1), .int .i64 0, .int .i64 0, .int .i64 0]) ?_ 2 _ rfl; (with_reducible repeat (first | refine blk_drewN ?_ _ | refine blk_drew ?_ | refine blk_alloc ?_ _)); refine blk_put (cs := #[.int .i64 ((rd_T37 t860 (ji29)).f0), .int .i64 0, .int .i64 0, .int .i64 0, .int .i64 0]) ?_ 1 _ rfl; (with_reducible repeat (first | refine blk_drewN ?_ _ | refine blk_drew ?_ | refine blk_alloc ?_ _)); refine blk_put (cs := #[.int .i64 0, .int .i64 0, .int .i64 0, .int .i64 0, .int .i64 0]) ?_ 0 _ rfl; (with_reducible repeat (first | refine blk_drewN ?_ _ | refine blk_drew ?_ | refine blk_alloc ?_ _)); exact BK869.out))⟩; have n6_ : Aside0 (Below w.heap.size w w58) := ⟨(by rw [hw]; exact (by repeat (first | (with_reducible first | exact HB.out | apply below_alloc | apply pw_below_drewN | apply below_drew1 | refine below_set ?_ GE867.out | refine below_set ?_ GE869.out) | exact HB.out)))⟩; clear hw; clear HO_3; clear HO_8; clear HO_18; clear HO_19; clear BK867; clear BK869; clear HB; have HO_3 := n0_; have HO_8 := n1_; have HO_18 := n2_; have HO_19 := n3_; have BK867 := n4_; have BK869 := n5_; have HB := n6_; clear n0_ n1_ n2_ n3_ n4_ n5_ n6_; have hcz59_0 : w58.cell? ⟨gb869, 0, none⟩ = some (.int .i64 ((rd_T37 t860 (ji29)).f0)) := (blk_cell BK869.out 0).trans rfl; have hcz59_1 : w58.cell? ⟨gb869, 1, none⟩ = some (.int .i64 ((rd_T37 t860 (ji29)).f1)) := (blk_cell BK869.out 1).trans rfl; have hcz59_2 : w58.cell? ⟨gb869, 2, none⟩ = some (.int .i64 ((rd_T37 t860 (ji29)).f2)) := (blk_cell BK869.out 2).trans rfl; have hcz59_3 : w58.cell? ⟨gb869, 3, none⟩ = some (.int .i64 ((rd_T37 t860 (ji29)).f3)) := (blk_cell BK869.out 3).trans rfl; have hcz59_4 : w58.cell? ⟨gb869, 4, none⟩ = some (.int .i64 ((rd_T37 t860 (ji29)).f4)) := (blk_cell BK869.out 4).trans rfl; have hfz59_0 := blk_frozen BK869.out 0; have hfz59_1 := blk_frozen BK869.out 1; have hfz59_2 := blk_frozen BK869.out 2; have hfz59_3 := blk_frozen BK869.out 3; have hfz59_4 := blk_frozen BK869.out 4; have hcz60_0 : w58.cell? ⟨gb867, 0, none⟩ = some (.int .i64 ((rd_T37 t842 (ji26)).f0)) := (blk_cell BK867.out 0).trans rfl; have hcz60_1 : w58.cell? ⟨gb867, 1, none⟩ = some (.int .i64 ((rd_T37 t842 (ji26)).f1)) := (blk_cell BK867.out 1).trans rfl; have hcz60_2 : w58.cell? ⟨gb867, 2, none⟩ = some (.int .i64 ((rd_T37 t842 (ji26)).f2)) := (blk_cell BK867.out 2).trans rfl; have hcz60_3 : w58.cell? ⟨gb867, 3, none⟩ = some (.int .i64 ((rd_T37 t842 (ji26)).f3)) := (blk_cell BK867.out 3).trans rfl; have hcz60_4 : w58.cell? ⟨gb867, 4, none⟩ = some (.int .i64 ((rd_T37 t842 (ji26)).f4)) := (blk_cell BK867.out 4).trans rfl; have hfz60_0 := blk_frozen BK867.out 0; have hfz60_1 := blk_frozen BK867.out 1; have hfz60_2 := blk_frozen BK867.out 2; have hfz60_3 := blk_frozen BK867.out 3; have hfz60_4 := blk_frozen BK867.out 4))
                 repeat (go_quiet (fail); try go_wp2)
                 go_roundg k2
                 case measure => have := HJ8.out; have := HK2.out; omega
                 case rel => exact ⟨(wrap64 (x20_2 + 1)), (by first | rfl | (simp; done) | (simp [*]; done)), H', ⟨by have := HJ8.out; have := HK2.out; omega⟩, ⟨by (with_reducible repeat (first | apply Kd.R_alloc | apply Kd.R_drewN | apply Kd.R_drew)); exact Kd.R_mono HO_3.out (fun _ hk => ⟨hk.1, ⟨hk.2.1, hk.2.2.1⟩⟩)⟩, ⟨by (with_reducible repeat (first | apply Kd.R_alloc | apply Kd.R_drewN | apply Kd.R_drew)); exact Kd.R_mono HO_8.out (fun _ hk => ⟨hk.1, ⟨hk.2.1, hk.2.2.1⟩⟩)⟩, ⟨by (with_reducible repeat (first | apply Kd.R_alloc | apply Kd.R_drewN | apply Kd.R_drew)); exact Kd.R_mono HO_18.out (fun _ hk => ⟨hk.1, ⟨hk.2.1, hk.2.2.1⟩⟩)⟩, ⟨by (with_reducible repeat (first | apply Kd.R_alloc | apply Kd.R_drewN | apply Kd.R_drew)); exact Kd.R_mono HO_19.out (fun _ hk => ⟨hk.1, ⟨hk.2.1, hk.2.2.1⟩⟩)⟩, ⟨by repeat (first | (with_reducible first | exact HB.out | apply below_alloc | apply pw_below_drewN | apply below_drew1 | refine below_set ?_ GE867.out | refine below_set ?_ GE869.out) | exact HB.out)⟩⟩
             ·
              rw [if_neg c32] at H
              exact absurd H (by simp)
            ·
             rw [if_neg c31] at H
             exact absurd H (by simp)
           ·
            rw [if_neg c30] at H
            exact absurd H (by simp)
          ·
           rw [if_neg c28] at H
           exact absurd H (by simp)
         ·
          rw [if_neg c27] at H
          exact absurd H (by simp)
        ·
         rw [if_neg c25] at H
         have c25b0 : decide (x20_2 < (t860.length : Int)) = false := decide_eq_false c25
         clear c25
         have H' := Aside0.mk H
         clear H
         obtain ⟨Ao61, co61, eo61⟩ := Kd.R_slice HO_18.out
         subst eo61
         go_wp2
         repeat (go_quiet (fail); try go_wp2)
         go_loopg [23] k2 (fun kq v23 w' => ∃ (x23_3 : Int), v23 = .int .i64 x23_3 ∧ Aside0 (laws_FnWays.l1 kq t835 t836 t837 t842 t846 t851 t863 x23_3 = some r) ∧ Aside0 (kq ≤ k2) ∧ Aside0 (Kd.R k37 37 w' w.heap.size (fun k_ => some k_ ≠ (v843 : Value).ownBlock ∧ some k_ ≠ (v864 : Value).ownBlock) (.slice Ao11 t835.length co11) t835) ∧ Aside0 (Kd.R k37 37 w' w.heap.size (fun k_ => some k_ ≠ ((.slice Ao11 t835.length co11) : Value).ownBlock ∧ some k_ ≠ (v864 : Value).ownBlock) v843 t842) ∧ Aside0 (Kd.R k37 37 w' w.heap.size (fun k_ => some k_ ≠ ((.slice Ao11 t835.length co11) : Value).ownBlock ∧ some k_ ≠ (v843 : Value).ownBlock) v864 t863) ∧ Aside0 (Below w.heap.size w w'))
         case atStart => exact ⟨(0), (by first | rfl | (simp; done) | (simp [*]; done)), H', ⟨Nat.le_refl _⟩, ⟨by (with_reducible repeat (first | apply Kd.R_alloc | apply Kd.R_drewN | apply Kd.R_drew)); exact Kd.R_mono HO_3.out (fun _ hk => ⟨hk.1, hk.2.2⟩)⟩, ⟨by (with_reducible repeat (first | apply Kd.R_alloc | apply Kd.R_drewN | apply Kd.R_drew)); exact Kd.R_mono HO_8.out (fun _ hk => ⟨hk.1, hk.2.2⟩)⟩, ⟨by (with_reducible repeat (first | apply Kd.R_alloc | apply Kd.R_drewN | apply Kd.R_drew)); exact Kd.R_mono HO_19.out (fun _ hk => ⟨hk.1, hk.2.1⟩)⟩, ⟨bb_⟩⟩
         case round =>
          clear H'
          try clear c1
          try clear c2
          try clear p2
          try clear c3
          try clear c4
          try clear c5
          try clear p6
          try clear p8
          try clear q8
          try clear hx8
          try clear c11
          try clear c16
          try clear c16b0
          try clear c16b1
          try clear c17
          try clear c18
          try clear c18b0
          try clear c18b1
          try clear c25
          try clear c25b0
          try clear c27
          try clear c27b0
          try clear c28
          try clear c28b0
          try clear c30
          try clear c30b0
          try clear c31
          try clear c31b0
          try clear c32
          try clear c32b0
          try clear c32b1
          try clear c33
          try clear c33b0
          try clear c34
          try clear c34b0
          try clear c35
          try clear c35b0
          try clear c36
          try clear c36b0
          try clear c43
          try clear c48
          try clear c48b0
          try clear c49
          try clear c49b0
          try clear c56
          try clear hcz40_0
          try clear hcz40_1
          try clear hcz40_2
          try clear hcz40_3
          try clear hcz40_4
          try clear hcz44_0
          try clear hcz44_1
          try clear hcz44_2
          try clear hcz44_3
          try clear hcz44_4
          try clear hcz46_0
          try clear hcz46_1
          try clear hcz46_2
          try clear hcz46_3
          try clear hcz46_4
          try clear hcz47_0
          try clear hcz47_1
          try clear hcz47_2
          try clear hcz47_3
          try clear hcz47_4
          try clear hcz53_0
          try clear hcz53_1
          try clear hcz53_2
          try clear hcz53_3
          try clear hcz53_4
          try clear hcz57_0
          try clear hcz57_1
          try clear hcz57_2
          try clear hcz57_3
          try clear hcz57_4
          try clear hcz59_0
          try clear hcz59_1
          try clear hcz59_2
          try clear hcz59_3
          try clear hcz59_4
          try clear hcz60_0
          try clear hcz60_1
          try clear hcz60_2
          try clear hcz60_3
          try clear hcz60_4
          try clear hfz40_0
          try clear hfz40_1
          try clear hfz40_2
          try clear hfz40_3
          try clear hfz40_4
          try clear hfz44_0
          try clear hfz44_1
          try clear hfz44_2
          try clear hfz44_3
          try clear hfz44_4
          try clear hfz46_0
          try clear hfz46_1
          try clear hfz46_2
          try clear hfz46_3
          try clear hfz46_4
          try clear hfz47_0
          try clear hfz47_1
          try clear hfz47_2
          try clear hfz47_3
          try clear hfz47_4
          try clear hfz53_0
          try clear hfz53_1
          try clear hfz53_2
          try clear hfz53_3
          try clear hfz53_4
          try clear hfz57_0
          try clear hfz57_1
          try clear hfz57_2
          try clear hfz57_3
          try clear hfz57_4
          try clear hfz59_0
          try clear hfz59_1
          try clear hfz59_2
          try clear hfz59_3
          try clear hfz59_4
          try clear hfz60_0
          try clear hfz60_1
          try clear hfz60_2
          try clear hfz60_3
          try clear hfz60_4
          try clear hx866_0
          try clear hx866_1
          try clear hx866_2
          try clear hx866_3
          try clear hx866_4
          try clear hx868_0
          try clear hx868_1
          try clear hx868_2
          try clear hx868_3
          try clear hx868_4
          try clear p2
          try clear p866
          try clear p868
          try clear q866
          try clear q868
          obtain ⟨x23_3, rfl, HA, HK3, HO_3, HO_8, HO_19, HB⟩ := hrel
          cases gk with
          | zero => exact absurd HA.out (by simp [laws_FnWays.l1])
          | succ k3 =>
           have H := HA.out
           clear HA
           simp only [laws_FnWays.l1] at H
           by_cases c62 : x23_3 < (t863.length : Int)
           ·
            rw [if_pos c62] at H
            have c62b0 : decide (x23_3 < (t863.length : Int)) = true := decide_eq_true c62
            clear c62
            by_cases c63 : 0 ≤ x23_3
            ·
             rw [if_pos c63] at H
             have c63b0 : decide (0 ≤ x23_3) = true := decide_eq_true c63
             clear c63
             by_cases c64 : x23_3 < (t842.length : Int)
             ·
              rw [if_pos c64] at H
              have c64b0 : decide (x23_3 < (t842.length : Int)) = true := decide_eq_true c64
              clear c64
              by_cases c65 : ((rd_T37 t863 x23_3).f2) = ((rd_T37 t842 x23_3).f2)
              ·
               rw [if_pos c65] at H
               have c65b0 : (((rd_T37 t863 x23_3).f2) == ((rd_T37 t842 x23_3).f2)) = true := beq_iff_eq.mpr c65
               have c65b1 : (((rd_T37 t863 x23_3).f2) != ((rd_T37 t842 x23_3).f2)) = false := bne_eq_false_iff_eq.mpr c65
               clear c65
               by_cases c66 : x23_3 < (wrap64 ((t863.length : Int) - 1))
               ·
                rw [if_pos c66] at H
                have c66b0 : decide (x23_3 < (wrap64 ((t863.length : Int) - 1))) = true := decide_eq_true c66
                clear c66
                by_cases c67 : (!(((rd_T37 t863 x23_3).f0) == ((rd_T37 t842 x23_3).f0)) || (!(((rd_T37 t863 x23_3).f1) == ((rd_T37 t842 x23_3).f1)) || (!(((rd_T37 t863 x23_3).f2) == ((rd_T37 t842 x23_3).f2)) || (!(((rd_T37 t863 x23_3).f3) == ((rd_T37 t842 x23_3).f3)) || (!(((rd_T37 t863 x23_3).f4) == ((rd_T37 t842 x23_3).f4))))))) = true
                ·
                 rw [if_pos c67] at H
                 exact absurd H (by simp)
                ·
                 rw [if_neg c67] at H
                 have c67b0 : (!(((rd_T37 t863 x23_3).f0) == ((rd_T37 t842 x23_3).f0)) || (!(((rd_T37 t863 x23_3).f1) == ((rd_T37 t842 x23_3).f1)) || (!(((rd_T37 t863 x23_3).f2) == ((rd_T37 t842 x23_3).f2)) || (!(((rd_T37 t863 x23_3).f3) == ((rd_T37 t842 x23_3).f3)) || (!(((rd_T37 t863 x23_3).f4) == ((rd_T37 t842 x23_3).f4))))))) = false := by simpa using c67
                 obtain ⟨df0, df1, df2, df3, df4⟩ : ((rd_T37 t863 x23_3).f0) = ((rd_T37 t842 x23_3).f0) ∧ ((rd_T37 t863 x23_3).f1) = ((rd_T37 t842 x23_3).f1) ∧ ((rd_T37 t863 x23_3).f2) = ((rd_T37 t842 x23_3).f2) ∧ ((rd_T37 t863 x23_3).f3) = ((rd_T37 t842 x23_3).f3) ∧ ((rd_T37 t863 x23_3).f4) = ((rd_T37 t842 x23_3).f4) := by simpa using c67b0
                 replace df0 := eq_true df0
                 replace df1 := eq_true df1
                 replace df2 := eq_true df2
                 replace df3 := eq_true df3
                 replace df4 := eq_true df4
                 clear c67
                 by_cases c68 : ((rd_T37 t863 x23_3).f3) > ((rd_T37 t842 x23_3).f3)
                 ·
                  rw [if_pos c68] at H
                  exact absurd H (by simp)
                 ·
                  rw [if_neg c68] at H
                  have c68b0 : decide (((rd_T37 t842 x23_3).f3) < ((rd_T37 t863 x23_3).f3)) = false := decide_eq_false c68
                  clear c68
                  have H' := Aside0.mk H
                  clear H
                  obtain ⟨Ao69, co69, eo69⟩ := Kd.R_slice HO_19.out
                  subst eo69
                  have p870 : 0 ≤ (x23_3 : Int) := od_
                  have q870 : x23_3 < (t863.length : Int) := od_
                  obtain ⟨ad870, e870, hx870_0, hx870_1, hx870_2, hx870_3, hx870_4⟩ := at_T37 (Kd.R_reads' HO_19.out).2.2 x23_3 p870 q870
                  cases e870
                  replace p870 := eq_true p870
                  replace q870 := eq_true q870
                  obtain ⟨Ao70, co70, eo70⟩ := Kd.R_slice HO_8.out
                  subst eo70
                  have p871 : 0 ≤ (x23_3 : Int) := od_
                  have q871 : x23_3 < (t842.length : Int) := od_
                  obtain ⟨ad871, e871, hx871_0, hx871_1, hx871_2, hx871_3, hx871_4⟩ := at_T37 (Kd.R_reads' HO_8.out).2.2 x23_3 p871 q871
                  cases e871
                  replace p871 := eq_true p871
                  replace q871 := eq_true q871
                  have p872 : 0 ≤ (x23_3 : Int) := od_
                  have q872 : x23_3 < (t863.length : Int) := od_
                  obtain ⟨ad872, e872, hx872_0, hx872_1, hx872_2, hx872_3, hx872_4⟩ := at_T37 (Kd.R_reads' HO_19.out).2.2 x23_3 p872 q872
                  obtain rfl : ad870 = ad872 := (by injection e872)
                  replace p872 := eq_true p872
                  replace q872 := eq_true q872
                  have p873 : 0 ≤ (x23_3 : Int) := od_
                  have q873 : x23_3 < (t842.length : Int) := od_
                  obtain ⟨ad873, e873, hx873_0, hx873_1, hx873_2, hx873_3, hx873_4⟩ := at_T37 (Kd.R_reads' HO_8.out).2.2 x23_3 p873 q873
                  obtain rfl : ad871 = ad873 := (by injection e873)
                  replace p873 := eq_true p873
                  replace q873 := eq_true q873
                  have p874 : 0 ≤ (x23_3 : Int) := od_
                  have q874 : x23_3 < (t863.length : Int) := od_
                  obtain ⟨ad874, e874, hx874_0, hx874_1, hx874_2, hx874_3, hx874_4⟩ := at_T37 (Kd.R_reads' HO_19.out).2.2 x23_3 p874 q874
                  obtain rfl : ad870 = ad874 := (by injection e874)
                  replace p874 := eq_true p874
                  replace q874 := eq_true q874
                  have p875 : 0 ≤ (x23_3 : Int) := od_
                  have q875 : x23_3 < (t842.length : Int) := od_
                  obtain ⟨ad875, e875, hx875_0, hx875_1, hx875_2, hx875_3, hx875_4⟩ := at_T37 (Kd.R_reads' HO_8.out).2.2 x23_3 p875 q875
                  obtain rfl : ad871 = ad875 := (by injection e875)
                  replace p875 := eq_true p875
                  replace q875 := eq_true q875
                  go_wp2
                  repeat (go_quiet (fail); try go_wp2)
                  go_roundg k3
                  case measure => have := HJ8.out; have := HK2.out; have := HK3.out; omega
                  case rel => exact ⟨(wrap64 (x23_3 + 1)), (by first | rfl | (simp; done) | (simp [*]; done)), H', ⟨by have := HJ8.out; have := HK2.out; have := HK3.out; omega⟩, ⟨by (with_reducible repeat (first | apply Kd.R_alloc | apply Kd.R_drewN | apply Kd.R_drew)); exact HO_3.out⟩, ⟨by (with_reducible repeat (first | apply Kd.R_alloc | apply Kd.R_drewN | apply Kd.R_drew)); exact HO_8.out⟩, ⟨by (with_reducible repeat (first | apply Kd.R_alloc | apply Kd.R_drewN | apply Kd.R_drew)); exact HO_19.out⟩, ⟨bb_⟩⟩
               ·
                rw [if_neg c66] at H
                have c66b0 : decide (x23_3 < (wrap64 ((t863.length : Int) - 1))) = false := decide_eq_false c66
                clear c66
                by_cases c71 : ((rd_T37 t863 x23_3).f3) > ((rd_T37 t842 x23_3).f3)
                ·
                 rw [if_pos c71] at H
                 exact absurd H (by simp)
                ·
                 rw [if_neg c71] at H
                 have c71b0 : decide (((rd_T37 t842 x23_3).f3) < ((rd_T37 t863 x23_3).f3)) = false := decide_eq_false c71
                 clear c71
                 have H' := Aside0.mk H
                 clear H
                 obtain ⟨Ao72, co72, eo72⟩ := Kd.R_slice HO_19.out
                 subst eo72
                 have p870 : 0 ≤ (x23_3 : Int) := od_
                 have q870 : x23_3 < (t863.length : Int) := od_
                 obtain ⟨ad870, e870, hx870_0, hx870_1, hx870_2, hx870_3, hx870_4⟩ := at_T37 (Kd.R_reads' HO_19.out).2.2 x23_3 p870 q870
                 cases e870
                 replace p870 := eq_true p870
                 replace q870 := eq_true q870
                 obtain ⟨Ao73, co73, eo73⟩ := Kd.R_slice HO_8.out
                 subst eo73
                 have p871 : 0 ≤ (x23_3 : Int) := od_
                 have q871 : x23_3 < (t842.length : Int) := od_
                 obtain ⟨ad871, e871, hx871_0, hx871_1, hx871_2, hx871_3, hx871_4⟩ := at_T37 (Kd.R_reads' HO_8.out).2.2 x23_3 p871 q871
                 cases e871
                 replace p871 := eq_true p871
                 replace q871 := eq_true q871
                 have p876 : 0 ≤ (x23_3 : Int) := od_
                 have q876 : x23_3 < (t863.length : Int) := od_
                 obtain ⟨ad876, e876, hx876_0, hx876_1, hx876_2, hx876_3, hx876_4⟩ := at_T37 (Kd.R_reads' HO_19.out).2.2 x23_3 p876 q876
                 obtain rfl : ad870 = ad876 := (by injection e876)
                 replace p876 := eq_true p876
                 replace q876 := eq_true q876
                 have p877 : 0 ≤ (x23_3 : Int) := od_
                 have q877 : x23_3 < (t842.length : Int) := od_
                 obtain ⟨ad877, e877, hx877_0, hx877_1, hx877_2, hx877_3, hx877_4⟩ := at_T37 (Kd.R_reads' HO_8.out).2.2 x23_3 p877 q877
                 obtain rfl : ad871 = ad877 := (by injection e877)
                 replace p877 := eq_true p877
                 replace q877 := eq_true q877
                 go_wp2
                 repeat (go_quiet (fail); try go_wp2)
                 go_roundg k3
                 case measure => have := HJ8.out; have := HK2.out; have := HK3.out; omega
                 case rel => exact ⟨(wrap64 (x23_3 + 1)), (by first | rfl | (simp; done) | (simp [*]; done)), H', ⟨by have := HJ8.out; have := HK2.out; have := HK3.out; omega⟩, ⟨by (with_reducible repeat (first | apply Kd.R_alloc | apply Kd.R_drewN | apply Kd.R_drew)); exact HO_3.out⟩, ⟨by (with_reducible repeat (first | apply Kd.R_alloc | apply Kd.R_drewN | apply Kd.R_drew)); exact HO_8.out⟩, ⟨by (with_reducible repeat (first | apply Kd.R_alloc | apply Kd.R_drewN | apply Kd.R_drew)); exact HO_19.out⟩, ⟨bb_⟩⟩
              ·
               rw [if_neg c65] at H
               exact absurd H (by simp)
             ·
              rw [if_neg c64] at H
              exact absurd H (by simp)
            ·
             rw [if_neg c63] at H
             exact absurd H (by simp)
           ·
            rw [if_neg c62] at H
            have c62b0 : decide (x23_3 < (t863.length : Int)) = false := decide_eq_false c62
            clear c62
            by_cases c74 : (t842.length : Int) = 0
            ·
             rw [if_pos c74] at H
             have c74b0 : ((t842.length : Int) == 0) = true := beq_iff_eq.mpr c74
             have c74b1 : ((t842.length : Int) != 0) = false := bne_eq_false_iff_eq.mpr c74
             clear c74
             obtain rfl := Option.some.inj H
             obtain ⟨Ao75, co75, eo75⟩ := Kd.R_slice HO_19.out
             subst eo75
             obtain ⟨Ao76, co76, eo76⟩ := Kd.R_slice HO_8.out
             subst eo76
             go_wp2
             repeat (go_quiet (fail); try go_wp2)
             go_ret
             exact ⟨er_, bb_⟩
            ·
             rw [if_neg c74] at H
             have c74b0 : ((t842.length : Int) == 0) = false := beq_eq_false_iff_ne.mpr c74
             have c74b1 : ((t842.length : Int) != 0) = true := bne_iff_ne.mpr c74
             have c74b2 : ¬ (t842 = []) := fun h_ => c74 (by rw [h_]; rfl)
             replace H := Option.bind_eq_some_iff.mp H
             obtain ⟨t878, A770, H⟩ := H
             replace H : (if t846 ≤ t878 then ((spec_LotsCost.f k3 t835 t836 t837).bind fun t879 => (some (decide (t851 ≤ t879)))) else (none)) = some r := H
             have A77 := Aside0.mk A770
             clear A770
             by_cases c78 : t846 ≤ t878
             ·
              rw [if_pos c78] at H
              have c78b0 : decide (t846 ≤ t878) = true := decide_eq_true c78
              clear c78
              replace H := Option.bind_eq_some_iff.mp H
              obtain ⟨t879, A790, H⟩ := H
              replace H : (some (decide (t851 ≤ t879))) = some r := H
              have A79 := Aside0.mk A790
              clear A790
              obtain rfl := Option.some.inj (A77.out.symm.trans A79.out)
              obtain rfl := Option.some.inj H
              obtain ⟨Ao80, co80, eo80⟩ := Kd.R_slice HO_19.out
              subst eo80
              obtain ⟨Ao81, co81, eo81⟩ := Kd.R_slice HO_8.out
              subst eo81
              go_wp2_with (first | (go_at_call 21; (with_reducible refine (spec_LotsCost.calls k3 _ _ t835 t836 t837 t878 _ ?side1 ?side2 A77.out).mono ?_); (case side1 => repeat (first | exact (Kd.R_reads' HO_3.out).2.2 | (with_reducible refine Kd.C_alloc ?_ _) | (with_reducible refine Kd.C_drewN ?_ _) | (with_reducible refine Kd.C_drew ?_))); (case side2 => exact (Kd.R_reads' HO_3.out).2.1); rintro e w82 ⟨rfl, hb⟩; have n0_ := Aside0.mk (Kd.R_below (pe_ HO_3.out) hb); have n1_ := Aside0.mk (Kd.R_below (pe_ HO_8.out) hb); have n2_ := Aside0.mk (Kd.R_below (pe_ HO_19.out) hb); have n3_ := Aside0.mk (below_step (bb_) hb); clear HO_3; clear HO_8; clear HO_19; clear HB; have HO_3 := n0_; have HO_8 := n1_; have HO_19 := n2_; have HB := n3_; clear n0_ n1_ n2_ n3_; (try clear hb); (try clear hb2); (try clear hk); (try clear hi)) | (go_at_call 21; (with_reducible refine (spec_LotsCost.calls k3 _ _ t835 t836 t837 t879 _ ?side1 ?side2 A79.out).mono ?_); (case side1 => repeat (first | exact (Kd.R_reads' HO_3.out).2.2 | (with_reducible refine Kd.C_alloc ?_ _) | (with_reducible refine Kd.C_drewN ?_ _) | (with_reducible refine Kd.C_drew ?_))); (case side2 => exact (Kd.R_reads' HO_3.out).2.1); rintro e w83 ⟨rfl, hb⟩; have n0_ := Aside0.mk (Kd.R_below (pe_ HO_3.out) hb); have n1_ := Aside0.mk (Kd.R_below (pe_ HO_8.out) hb); have n2_ := Aside0.mk (Kd.R_below (pe_ HO_19.out) hb); have n3_ := Aside0.mk (below_step (bb_) hb); clear HO_3; clear HO_8; clear HO_19; clear HB; have HO_3 := n0_; have HO_8 := n1_; have HO_19 := n2_; have HB := n3_; clear n0_ n1_ n2_ n3_; (try clear hb); (try clear hb2); (try clear hk); (try clear hi)))
              repeat (go_quiet (first | (go_at_call 21; (with_reducible refine (spec_LotsCost.calls k3 _ _ t835 t836 t837 t878 _ ?side1 ?side2 A77.out).mono ?_); (case side1 => repeat (first | exact (Kd.R_reads' HO_3.out).2.2 | (with_reducible refine Kd.C_alloc ?_ _) | (with_reducible refine Kd.C_drewN ?_ _) | (with_reducible refine Kd.C_drew ?_))); (case side2 => exact (Kd.R_reads' HO_3.out).2.1); rintro e w82 ⟨rfl, hb⟩; have n0_ := Aside0.mk (Kd.R_below (pe_ HO_3.out) hb); have n1_ := Aside0.mk (Kd.R_below (pe_ HO_8.out) hb); have n2_ := Aside0.mk (Kd.R_below (pe_ HO_19.out) hb); have n3_ := Aside0.mk (below_step (bb_) hb); clear HO_3; clear HO_8; clear HO_19; clear HB; have HO_3 := n0_; have HO_8 := n1_; have HO_19 := n2_; have HB := n3_; clear n0_ n1_ n2_ n3_; (try clear hb); (try clear hb2); (try clear hk); (try clear hi)) | (go_at_call 21; (with_reducible refine (spec_LotsCost.calls k3 _ _ t835 t836 t837 t879 _ ?side1 ?side2 A79.out).mono ?_); (case side1 => repeat (first | exact (Kd.R_reads' HO_3.out).2.2 | (with_reducible refine Kd.C_alloc ?_ _) | (with_reducible refine Kd.C_drewN ?_ _) | (with_reducible refine Kd.C_drew ?_))); (case side2 => exact (Kd.R_reads' HO_3.out).2.1); rintro e w83 ⟨rfl, hb⟩; have n0_ := Aside0.mk (Kd.R_below (pe_ HO_3.out) hb); have n1_ := Aside0.mk (Kd.R_below (pe_ HO_8.out) hb); have n2_ := Aside0.mk (Kd.R_below (pe_ HO_19.out) hb); have n3_ := Aside0.mk (below_step (bb_) hb); clear HO_3; clear HO_8; clear HO_19; clear HB; have HO_3 := n0_; have HO_8 := n1_; have HO_19 := n2_; have HB := n3_; clear n0_ n1_ n2_ n3_; (try clear hb); (try clear hb2); (try clear hk); (try clear hi))); try go_wp2_with (first | (go_at_call 21; (with_reducible refine (spec_LotsCost.calls k3 _ _ t835 t836 t837 t878 _ ?side1 ?side2 A77.out).mono ?_); (case side1 => repeat (first | exact (Kd.R_reads' HO_3.out).2.2 | (with_reducible refine Kd.C_alloc ?_ _) | (with_reducible refine Kd.C_drewN ?_ _) | (with_reducible refine Kd.C_drew ?_))); (case side2 => exact (Kd.R_reads' HO_3.out).2.1); rintro e w82 ⟨rfl, hb⟩; have n0_ := Aside0.mk (Kd.R_below (pe_ HO_3.out) hb); have n1_ := Aside0.mk (Kd.R_below (pe_ HO_8.out) hb); have n2_ := Aside0.mk (Kd.R_below (pe_ HO_19.out) hb); have n3_ := Aside0.mk (below_step (bb_) hb); clear HO_3; clear HO_8; clear HO_19; clear HB; have HO_3 := n0_; have HO_8 := n1_; have HO_19 := n2_; have HB := n3_; clear n0_ n1_ n2_ n3_; (try clear hb); (try clear hb2); (try clear hk); (try clear hi)) | (go_at_call 21; (with_reducible refine (spec_LotsCost.calls k3 _ _ t835 t836 t837 t879 _ ?side1 ?side2 A79.out).mono ?_); (case side1 => repeat (first | exact (Kd.R_reads' HO_3.out).2.2 | (with_reducible refine Kd.C_alloc ?_ _) | (with_reducible refine Kd.C_drewN ?_ _) | (with_reducible refine Kd.C_drew ?_))); (case side2 => exact (Kd.R_reads' HO_3.out).2.1); rintro e w83 ⟨rfl, hb⟩; have n0_ := Aside0.mk (Kd.R_below (pe_ HO_3.out) hb); have n1_ := Aside0.mk (Kd.R_below (pe_ HO_8.out) hb); have n2_ := Aside0.mk (Kd.R_below (pe_ HO_19.out) hb); have n3_ := Aside0.mk (below_step (bb_) hb); clear HO_3; clear HO_8; clear HO_19; clear HB; have HO_3 := n0_; have HO_8 := n1_; have HO_19 := n2_; have HB := n3_; clear n0_ n1_ n2_ n3_; (try clear hb); (try clear hb2); (try clear hk); (try clear hi))))
              go_ret
              exact ⟨er_, bb_⟩
             ·
              rw [if_neg c78] at H
              exact absurd H (by simp)
     ·
      rw [if_neg c18] at H
      have c18b0 : (t847 == 0) = false := beq_eq_false_iff_ne.mpr c18
      have c18b1 : (t847 != 0) = true := bne_iff_ne.mpr c18
      by_cases c84 : t846 = 0
      ·
       rw [if_pos c84] at H
       have c84b0 : (t846 == 0) = true := beq_iff_eq.mpr c84
       have c84b1 : (t846 != 0) = false := bne_eq_false_iff_eq.mpr c84
       clear c84
       obtain rfl := Option.some.inj H
       go_wp2
       repeat (go_quiet (fail); try go_wp2)
       go_ret
       exact ⟨er_, bb_⟩
      ·
       rw [if_neg c84] at H
       exact absurd H (by simp)
def laws_FnWays.Pure : Prop := ∀ (l0 : List Int), l0.length ≤ maxLen → l0.length * 1 ≤ 140737488351232 → (∀ x ∈ l0, (Lit.int .u8 x).wf = true) → ∃ k, laws_FnWays.f k l0 = some true
theorem laws_FnWays.walk (P : laws_FnWays.Pure) (a0 : Option Addr) (len0 cap0 : Nat) (z0 : List Int) (w : World) (w0 : (a0 = none ∧ len0 = 0 ∧ cap0 = 0 ∧ z0 = []) ∨ ∃ x, a0 = some x ∧ len0 ≤ cap0 ∧ cap0 ≤ maxLen ∧ z0.length = cap0 ∧ (∀ i, i < z0.length → w.cell? (x.add i) = some (.int .u8 (z0.getD i 0))) ∧ ∀ n ∈ z0, (Lit.int .u8 n).wf = true) (y0 : len0 * 1 ≤ 140737488351232) :
 Calls Try.prog 11 #[.slice a0 len0 cap0] w fun e w' => e = .returned (.bool true) ∧ Below w.heap.size w w' := by
 obtain ⟨l0, rfl, hr0, hm0, hw0, hc0⟩ := ReadsInt.ofRowC w0
 obtain ⟨k, h⟩ := P l0 hm0 y0 hw0
 refine (laws_FnWays.calls k _ _ l0 true w (Kd.C_of_reads (d := (0 : Int)) (h1 := fun _ => rfl) hr0) hc0 h).mono ?_
 rintro e w' ⟨rfl, hd⟩
 exact ⟨rfl, hd⟩
end Go.Proofs.Ytomanpmffjkkgaa.P
namespace Go.Proofs.Ytomanpmffjkkgaa.EV
open Go Go.RowKit Go.Proofs.YtomanpmffjkkgaaW.PrintWords
theorem w64_in (n : Int) (h0 : -9223372036854775808 ≤ n) (h1 : n ≤ 9223372036854775807) : wrap64 n = n := by unfold wrap64; omega
theorem w_succ {i n : Nat} (h : i < n) (hn : n ≤ 9223372036854775807) : wrap64 ((i : Int) + 1) = ((i + 1 : Nat) : Int) := by unfold wrap64; omega
theorem w_pred {i n : Nat} (h : i < n) (hp : 0 < i) (hn : n ≤ 9223372036854775807) : wrap64 ((i : Int) - 1) = ((i - 1 : Nat) : Int) := by unfold wrap64; omega
theorem Ev_one {α : Type} {g : Nat → Option α} {r : α} (h : ∀ k, g (k + 1) = some r) : Ev g r := ⟨1, fun k hk => by
  obtain ⟨k, rfl⟩ : ∃ m, k = m + 1 := ⟨k - 1, by omega⟩
  exact h k⟩
theorem Ev_all_k {α : Type} {g : Nat → Option α} {r : α} (h : ∀ k, g k = some r) : Ev g r := ⟨0, fun k _ => h k⟩
theorem Ev_bind {α β : Type} {g : Nat → Option α} {f : Nat → α → Option β} {a : α} {r : β} (h : Ev g a) (k : Ev (fun n => f n a) r) : Ev (fun n => (g n).bind (f n)) r := Ev.bind h k
theorem Ev_goes {σ ρ : Type} (l : Nat → σ → Int → Option ρ) (n : Nat) (F : Nat → σ → ρ) (Inv : Nat → σ → Prop)
    (h0 : ∀ s, Inv n s → Ev (fun k => l k s (n : Int)) (F n s))
    (hs : ∀ (i : Nat) s, i < n → Inv i s → (Ev (fun k => l k s (i : Int)) (F i s)) ∨ ∃ s', Inv (i + 1) s' ∧ F (i + 1) s' = F i s ∧ ∀ k, l (k + 1) s (i : Int) = l k s' ((i + 1 : Nat) : Int)) :
    ∀ (d i : Nat) s, n - i = d → i ≤ n → Inv i s → Ev (fun k => l k s (i : Int)) (F i s) := by
  intro d
  induction d with
  | zero =>
    intro i s hd hi hinv
    obtain rfl : i = n := by omega
    exact h0 s hinv
  | succ d ih =>
    intro i s hd hi hinv
    rcases hs i s (by omega) hinv with h | ⟨s', h1, h2, h3⟩
    · exact h
    · exact h2 ▸ Ev.step h3 (ih (i + 1) s' (by omega) (by omega) h1)
theorem Ev_goes' {σ ρ : Type} (l : Nat → σ → Int → Option ρ) (n : Nat) (F : Nat → σ → ρ) (Inv : Nat → σ → Prop)
    (h0 : ∀ s, Inv n s → Ev (fun k => l k s (n : Int)) (F n s))
    (hs : ∀ (i : Nat) s, i < n → Inv i s → (Ev (fun k => l k s (i : Int)) (F i s)) ∨ ∃ s', Inv (i + 1) s' ∧ F (i + 1) s' = F i s ∧ ∀ r, Ev (fun k => l k s' ((i + 1 : Nat) : Int)) r → Ev (fun k => l k s (i : Int)) r) :
    ∀ (d i : Nat) s, n - i = d → i ≤ n → Inv i s → Ev (fun k => l k s (i : Int)) (F i s) := by
  intro d
  induction d with
  | zero =>
    intro i s hd hi hinv
    obtain rfl : i = n := by omega
    exact h0 s hinv
  | succ d ih =>
    intro i s hd hi hinv
    rcases hs i s (by omega) hinv with h | ⟨s', h1, h2, h3⟩
    · exact h
    · exact h2 ▸ h3 _ (ih (i + 1) s' (by omega) (by omega) h1)
theorem drop_getD {α : Type} (z : α) (l : List α) (i : Nat) (h : i < l.length) : l.drop i = l.getD i z :: l.drop (i + 1) := by
  rw [List.drop_eq_getElem_cons h, List.getD_eq_getElem?_getD, List.getElem?_eq_getElem h]
  rfl
end Go.Proofs.Ytomanpmffjkkgaa.EV
namespace Go.Proofs.Ytomanpmffjkkgaa.D1
open Go Go.RowKit Go.Proofs.Ytomanpmffjkkgaa.P Go.Proofs.YtomanpmffjkkgaaW.PrintWords Go.Proofs.YtomanpmffjkkgaaW.PrintLast Go.Proofs.Ytomanpmffjkkgaa.EV
theorem and255 (y : Int) : 0 ≤ Go.bits .and .i64 y 255 ∧ Go.bits .and .i64 y 255 ≤ 255 := by
  have h : (BitVec.ofInt IntKind.i64.bits y &&& BitVec.ofInt IntKind.i64.bits 255).toNat ≤ 255 := by
    rw [BitVec.toNat_and]
    exact Nat.le_trans Nat.and_le_right (by decide)
  simp only [Go.bits]
  generalize (BitVec.ofInt IntKind.i64.bits y &&& BitVec.ofInt IntKind.i64.bits 255).toNat = m at *
  rw [IntKind.wrap_i64]
  omega
def V (b : List Int) (i : Int) : Prop := 0 ≤ i ∧ i ≤ b.length ∧ b.length ≤ 140737488351232
theorem byte_ok (b : List Int) (i h : Int) (hv : V b i) : ∃ x i' h', spec_l1Byte.f b i h = some (x, i', h') ∧ 0 ≤ x ∧ x ≤ 255 ∧ V b i' := by
  obtain ⟨h0, h1, h2⟩ := hv
  unfold spec_l1Byte.f
  by_cases hi : i < (b.length : Int)
  · rw [if_pos hi, if_pos h0]
    refine ⟨_, _, _, rfl, (and255 _).1, (and255 _).2, ?_⟩
    rw [w64_in _ (by omega) (by omega)]
    exact ⟨by omega, by omega, h2⟩
  · rw [if_neg hi]
    exact ⟨_, _, _, rfl, (and255 _).1, (and255 _).2, h0, h1, h2⟩
theorem below_ok (b : List Int) (i h n : Int) (hv : V b i) (hn : n ≤ 4294967296) : ∃ x i' h', spec_l1Below.f b i h n = some (x, i', h') ∧ 0 ≤ x ∧ (0 < n → x < n) ∧ (n ≤ 0 → x = 0) ∧ V b i' := by
  unfold spec_l1Below.f
  by_cases h0 : n ≤ 0
  · rw [if_pos h0]
    exact ⟨_, _, _, rfl, by omega, fun h => by omega, fun _ => rfl, hv⟩
  · rw [if_neg h0]
    by_cases h1 : n ≤ 256
    · rw [if_pos h1]
      obtain ⟨x, i1, g1, e1, x0, x1, v1⟩ := byte_ok b i h hv
      rw [e1, Option.bind_some, if_neg (by omega)]
      refine ⟨_, _, _, rfl, ?_, fun _ => ?_, fun h => by omega, v1⟩
      · show 0 ≤ Int.tmod x n
        rw [Int.tmod_eq_emod_of_nonneg x0]
        exact Int.emod_nonneg _ (by omega)
      · show Int.tmod x n < n
        rw [Int.tmod_eq_emod_of_nonneg x0]
        exact Int.emod_lt_of_pos _ (by omega)
    · rw [if_neg h1]
      obtain ⟨x, i1, g1, e1, x0, x1, v1⟩ := byte_ok b i h hv
      rw [e1, Option.bind_some]
      obtain ⟨y, i2, g2, e2, y0, y1, v2⟩ := byte_ok b i1 g1 v1
      simp only [e2, Option.bind_some]
      obtain ⟨z, i3, g3, e3, z0, z1, v3⟩ := byte_ok b i2 g2 v2
      simp only [e3, Option.bind_some]
      obtain ⟨u, i4, g4, e4, u0, u1, v4⟩ := byte_ok b i3 g3 v3
      simp only [e4, Option.bind_some]
      rw [if_neg (by omega), w64_in (x * 16777216) (by omega) (by omega), w64_in (y * 65536) (by omega) (by omega), w64_in (z * 256) (by omega) (by omega),
        w64_in (x * 16777216 + y * 65536) (by omega) (by omega), w64_in (x * 16777216 + y * 65536 + z * 256) (by omega) (by omega), w64_in (x * 16777216 + y * 65536 + z * 256 + u) (by omega) (by omega)]
      refine ⟨_, _, _, rfl, ?_, fun _ => ?_, fun h => by omega, v4⟩
      · rw [Int.tmod_eq_emod_of_nonneg (by omega)]
        exact Int.emod_nonneg _ (by omega)
      · rw [Int.tmod_eq_emod_of_nonneg (by omega)]
        exact Int.emod_lt_of_pos _ (by omega)
theorem new_ok (l : List Int) (hl : l.length ≤ 140737488351232) : ∃ h, Ev (fun k => spec_l1New.f k l) (l, 0, h) := by
  have key : ∀ (d : Nat) (i : Nat) (h : Int), l.length - i = d → i ≤ l.length → ∃ h', Ev (fun k => spec_l1New.l0 k l h (i : Int)) (l, 0, h') := by
    intro d
    induction d with
    | zero =>
      intro i h hd hi
      exact ⟨h, Ev_one fun k => by simp only [spec_l1New.l0]; rw [if_neg (by omega)]⟩
    | succ d ih =>
      intro i h hd hi
      by_cases h4 : (i : Int) < 4000
      · obtain ⟨h', hr⟩ := ih (i + 1) (Go.bits .and .i64 (wrap64 ((wrap64 ((wrap64 (h * 131)) + (wrap64 (rd l (i : Int))))) + 7)) 1073741823) (by omega) (by omega)
        refine ⟨h', Ev.step (fun k => ?_) hr⟩
        simp only [spec_l1New.l0]
        rw [if_pos (by omega), if_pos h4, if_pos (by omega), w_succ (i := i) (n := l.length) (by omega) (by omega)]
      · exact ⟨h, Ev_one fun k => by simp only [spec_l1New.l0]; rw [if_pos (by omega), if_neg h4]⟩
  obtain ⟨h', hr⟩ := key l.length 0 (wrap64 (11029 + (l.length : Int))) (by omega) (by omega)
  exact ⟨h', Ev.congr (fun k => rfl) hr⟩
theorem once_ok (b : List Int) (i h n : Int) (hv : V b i) (hn : n ≤ 4294967296) : ∃ x i' h', spec_l1Once.f b i h n = some (x, i', h') ∧ V b i' := by
  unfold spec_l1Once.f
  obtain ⟨x, i1, g1, e1, _, _, _, v1⟩ := below_ok b i h n hv hn
  rw [e1]
  exact ⟨_, _, _, rfl, v1⟩
theorem pick_ok (b : List Int) (i h : Int) (l : List Int) (hv : V b i) (h0 : 0 < l.length) (hn : l.length ≤ 4294967296) : ∃ x i' h', spec_l1PickInt.f b i h l = some (x, i', h') ∧ x ∈ l ∧ V b i' := by
  unfold spec_l1PickInt.f
  obtain ⟨x, i1, g1, e1, x0, x1, _, v1⟩ := below_ok b i h l.length hv (by omega)
  have x2 := x1 (by omega)
  rw [e1, Option.bind_some, if_pos x0, if_pos x2]
  refine ⟨_, _, _, rfl, ?_, v1⟩
  show rd l x ∈ l
  unfold rd
  rw [List.getD_eq_getElem?_getD, List.getElem?_eq_getElem (by omega)]
  exact List.getElem_mem _
end Go.Proofs.Ytomanpmffjkkgaa.D1
namespace Go.Proofs.Ytomanpmffjkkgaa.I1
open Go Go.RowKit Go.Proofs.Ytomanpmffjkkgaa.P Go.Proofs.YtomanpmffjkkgaaW.PrintWords Go.Proofs.YtomanpmffjkkgaaW.PrintLast
theorem in_i (a lo hi : Int) : impl_in.f a lo hi = some (decide (lo ≤ a ∧ a ≤ hi)) := by
  unfold impl_in.f
  by_cases h : a ≥ lo
  · rw [if_pos h]
    congr 1
    rw [Bool.eq_iff_iff, decide_eq_true_iff, decide_eq_true_iff]
    omega
  · rw [if_neg h]
    congr 1
    symm
    rw [decide_eq_false_iff_not]
    omega
theorem in_s (a lo hi : Int) : spec_l1In.f a lo hi = some (decide (lo ≤ a ∧ a ≤ hi)) := by
  unfold spec_l1In.f
  by_cases h : a ≥ lo
  · rw [if_pos h]
    congr 1
    rw [Bool.eq_iff_iff, decide_eq_true_iff, decide_eq_true_iff]
    omega
  · rw [if_neg h]
    congr 1
    symm
    rw [decide_eq_false_iff_not]
    omega
end Go.Proofs.Ytomanpmffjkkgaa.I1
namespace Go.Proofs.Ytomanpmffjkkgaa.N1
open Go Go.RowKit Go.Proofs.Ytomanpmffjkkgaa.P Go.Proofs.YtomanpmffjkkgaaW.PrintWords Go.Proofs.YtomanpmffjkkgaaW.PrintLast Go.Proofs.Ytomanpmffjkkgaa.EV Go.Proofs.Ytomanpmffjkkgaa.I1
def No (a : Int) : Prop := 1 ≤ a ∧ a ≤ 1000
def Amt (a : Int) : Prop := -1000000000000000 ≤ a ∧ a ≤ 1000000000000000
instance (a : Int) : Decidable (No a) := by unfold No; exact inferInstance
instance (a : Int) : Decidable (Amt a) := by unfold Amt; exact inferInstance
theorem no_s (a : Int) : spec_l3No.f a = some (decide (No a)) := by unfold spec_l3No.f; rw [in_s]; rfl
theorem amt_s (a : Int) : spec_AmountOk.f a = some (decide (Amt a)) := by unfold spec_AmountOk.f; rw [in_s]; rfl
end Go.Proofs.Ytomanpmffjkkgaa.N1
namespace Go.Proofs.Ytomanpmffjkkgaa.E1
open Go Go.RowKit Go.Proofs.Ytomanpmffjkkgaa.P Go.Proofs.YtomanpmffjkkgaaW.PrintWords Go.Proofs.YtomanpmffjkkgaaW.PrintLast Go.Proofs.Ytomanpmffjkkgaa.EV Go.Proofs.Ytomanpmffjkkgaa.I1 Go.Proofs.Ytomanpmffjkkgaa.N1
abbrev SL := S37
theorem rdL (l : List SL) (i : Nat) : rd_T37 l (i : Int) = l.getD i z37 := by unfold rd_T37; rw [Int.toNat_natCast]
def Form (x : SL) : Prop := No x.f0 ∧ No x.f1 ∧ (1 ≤ x.f2 ∧ x.f2 ≤ 1000000000) ∧ (1 ≤ x.f3 ∧ x.f3 ≤ 1000000000000000) ∧ 0 ≤ x.f4 ∧ x.f4 ≤ 1000000000000000
instance (x : SL) : Decidable (Form x) := by unfold Form No; exact inferInstance
def Lt (x y : SL) : Prop := x.f0 < y.f0 ∨ (x.f0 = y.f0 ∧ (x.f1 < y.f1 ∨ (x.f1 = y.f1 ∧ x.f2 < y.f2)))
instance (x y : SL) : Decidable (Lt x y) := by unfold Lt; exact inferInstance
theorem Lt.trans {x y z : SL} (h : Lt x y) (g : Lt y z) : Lt x z := by
  unfold Lt at *
  omega
def qty (a b : Int) : List SL → Int
  | [] => 0
  | x :: xs => (if x.f0 = a ∧ x.f1 = b then x.f3 else 0) + qty a b xs
def cst (a b : Int) : List SL → Int
  | [] => 0
  | x :: xs => (if x.f0 = a ∧ x.f1 = b then x.f4 else 0) + cst a b xs
def Chn : Option SL → List SL → Prop
  | _, [] => True
  | none, x :: xs => Chn (some x) xs
  | some y, x :: xs => Lt y x ∧ Chn (some x) xs
def Right (l : List SL) : Prop := l.length ≤ 120 ∧ (∀ x ∈ l, Form x) ∧ Chn none l ∧ ∀ a b, Amt (qty a b l) ∧ Amt (cst a b l)
theorem Chn.tail {y x : SL} {l : List SL} (h : Lt y x) (g : Chn (some x) l) : Chn (some y) l := by
  cases l with
  | nil => trivial
  | cons z zs => exact ⟨h.trans g.1, g.2⟩
theorem Chn.all {y : SL} : ∀ {l : List SL}, Chn (some y) l → ∀ x ∈ l, Lt y x
  | [], _, x, hx => by cases hx
  | z :: zs, h, x, hx => by
    rcases List.mem_cons.1 hx with rfl | hx
    · exact h.1
    · exact Chn.all (Chn.tail h.1 h.2) x hx
theorem qty_none {a b : Int} : ∀ {l : List SL}, (∀ x ∈ l, ¬(x.f0 = a ∧ x.f1 = b)) → qty a b l = 0 ∧ cst a b l = 0
  | [], _ => ⟨rfl, rfl⟩
  | x :: xs, h => by
    have ih := qty_none (l := xs) fun y hy => h y (List.mem_cons_of_mem _ hy)
    have hx := h x (List.mem_cons_self ..)
    simp only [qty, cst]
    rw [if_neg hx, if_neg hx, ih.1, ih.2]
    exact ⟨rfl, rfl⟩
theorem qty_pos {a b : Int} : ∀ {l : List SL}, (∀ x ∈ l, Form x) → 0 ≤ qty a b l ∧ 0 ≤ cst a b l ∧ qty a b l ≤ l.length * 1000000000000000 ∧ cst a b l ≤ l.length * 1000000000000000
  | [], _ => ⟨Int.le_refl _, Int.le_refl _, by simp [qty], by simp [cst]⟩
  | x :: xs, h => by
    have ih := qty_pos (a := a) (b := b) (l := xs) fun y hy => h y (List.mem_cons_of_mem _ hy)
    have hx := h x (List.mem_cons_self ..)
    unfold Form at hx
    simp only [qty, cst, List.length_cons]
    split <;> omega
theorem cmp_neg (x y : SL) : 0 ≤ impl_LotsOk.cmp x y ↔ ¬Lt x y := by
  unfold impl_LotsOk.cmp Lt
  by_cases h0 : x.f0 < y.f0
  · rw [if_pos h0]; omega
  · rw [if_neg h0]
    by_cases h1 : y.f0 < x.f0
    · rw [if_pos h1]; omega
    · rw [if_neg h1]
      by_cases h2 : x.f1 < y.f1
      · rw [if_pos h2]; omega
      · rw [if_neg h2]
        by_cases h3 : y.f1 < x.f1
        · rw [if_pos h3]; omega
        · rw [if_neg h3]
          by_cases h4 : x.f2 < y.f2
          · rw [if_pos h4]; omega
          · rw [if_neg h4]
            by_cases h5 : y.f2 < x.f2
            · rw [if_pos h5]; omega
            · rw [if_neg h5]; omega
theorem form_iff (x : SL) : impl_LotsOk.form x = true ↔ Form x := by
  unfold impl_LotsOk.form Form No
  rw [decide_eq_true_iff]
def prev (l : List SL) (i : Nat) : Option SL := if 0 < i then some (l.getD (i - 1) z37) else none
theorem chk_go (l : List SL) : ∀ (n i : Nat), l.length - i = n → i ≤ l.length → (impl_LotsOk.chk l n i = true ↔ (∀ x ∈ l.drop i, Form x) ∧ Chn (prev l i) (l.drop i))
  | 0, i, hn, hi => by
    obtain rfl : i = l.length := by omega
    rw [List.drop_length]
    unfold impl_LotsOk.chk
    exact ⟨fun _ => ⟨fun x hx => (by cases hx), trivial⟩, fun _ => rfl⟩
  | n + 1, i, hn, hi => by
    have h1 : i < l.length := by omega
    have ih := chk_go l n (i + 1) (by omega) (by omega)
    have ep : prev l (i + 1) = some (l.getD i z37) := by unfold prev; rw [if_pos (by omega), Nat.add_sub_cancel]
    rw [ep] at ih
    rw [drop_getD z37 l i h1]
    unfold impl_LotsOk.chk
    by_cases h0 : 0 < i
    · have e0 : prev l i = some (l.getD (i - 1) z37) := by unfold prev; rw [if_pos h0]
      rw [e0]
      constructor
      · intro h
        split at h
        · rename_i hg
          have h2 := ih.1 h
          refine ⟨fun x hx => ?_, Classical.byContradiction fun hh => hg.2 ⟨h0, (cmp_neg _ _).2 fun hl => hh ⟨hl, h2.2⟩⟩⟩
          rcases List.mem_cons.1 hx with rfl | hx
          · exact (form_iff _).1 hg.1
          · exact h2.1 x hx
        · cases h
      · rintro ⟨hf, hl, hc⟩
        rw [if_pos ⟨(form_iff _).2 (hf _ (List.mem_cons_self ..)), fun hh => (cmp_neg _ _).1 hh.2 hl⟩]
        exact ih.2 ⟨fun x hx => hf x (List.mem_cons_of_mem _ hx), hc⟩
    · have e0 : prev l i = none := by unfold prev; rw [if_neg h0]
      rw [e0]
      constructor
      · intro h
        split at h
        · rename_i hg
          have h2 := ih.1 h
          refine ⟨fun x hx => ?_, h2.2⟩
          rcases List.mem_cons.1 hx with rfl | hx
          · exact (form_iff _).1 hg.1
          · exact h2.1 x hx
        · cases h
      · rintro ⟨hf, hc⟩
        rw [if_pos ⟨(form_iff _).2 (hf _ (List.mem_cons_self ..)), fun hh => h0 hh.1⟩]
        exact ih.2 ⟨fun x hx => hf x (List.mem_cons_of_mem _ hx), hc⟩
theorem sum_of (a b : Int) : ∀ (l : List SL) (q c : Int), (∀ x ∈ l, Form x) → 0 ≤ q → 0 ≤ c → q + l.length * 1000000000000000 ≤ 9000000000000000000 → c + l.length * 1000000000000000 ≤ 9000000000000000000 →
    impl_LotsOk.sum3 (impl_LotsOk.of l a b) q = q + qty a b l ∧ impl_LotsOk.sum4 (impl_LotsOk.of l a b) c = c + cst a b l
  | [], q, c, _, _, _, _, _ => by simp [impl_LotsOk.of, impl_LotsOk.sum3, impl_LotsOk.sum4, qty, cst]
  | x :: xs, q, c, hf, h0, h1, h2, h3 => by
    have hx := hf x (List.mem_cons_self ..)
    have hxs : ∀ y ∈ xs, Form y := fun y hy => hf y (List.mem_cons_of_mem _ hy)
    unfold Form at hx
    simp only [List.length_cons] at h2 h3
    by_cases hk : x.f0 = a ∧ x.f1 = b
    · have e : impl_LotsOk.of (x :: xs) a b = x :: impl_LotsOk.of xs a b := by
        unfold impl_LotsOk.of
        rw [List.filter_cons_of_pos (by simpa using hk)]
      have ih := sum_of a b xs (q + x.f3) (c + x.f4) hxs (by omega) (by omega) (by omega) (by omega)
      rw [e]
      simp only [impl_LotsOk.sum3, impl_LotsOk.sum4, List.foldl_cons, qty, cst] at ih ⊢
      rw [if_pos hk, if_pos hk, w64_in (q + x.f3) (by omega) (by omega), w64_in (c + x.f4) (by omega) (by omega), ih.1, ih.2]
      omega
    · have e : impl_LotsOk.of (x :: xs) a b = impl_LotsOk.of xs a b := by
        unfold impl_LotsOk.of
        rw [List.filter_cons_of_neg (by simpa using hk)]
      have ih := sum_of a b xs q c hxs (by omega) (by omega) (by omega) (by omega)
      rw [e]
      simp only [qty, cst]
      rw [if_neg hk, if_neg hk, ih.1, ih.2]
      omega
theorem over_iff (l : List SL) (hl : l.length ≤ 120) (hf : ∀ x ∈ l, Form x) (x : SL) : impl_LotsOk.over l x = false ↔ Amt (qty x.f0 x.f1 l) ∧ Amt (cst x.f0 x.f1 l) := by
  have h := sum_of x.f0 x.f1 l 0 0 hf (Int.le_refl _) (Int.le_refl _) (by omega) (by omega)
  unfold impl_LotsOk.over
  rw [h.1, h.2, Int.zero_add, Int.zero_add]
  unfold impl_LotsOk.amt Amt
  by_cases h1 : -1000000000000000 ≤ qty x.f0 x.f1 l ∧ qty x.f0 x.f1 l ≤ 1000000000000000
  · by_cases h2 : -1000000000000000 ≤ cst x.f0 x.f1 l ∧ cst x.f0 x.f1 l ≤ 1000000000000000
    · simp [h1, h2]
    · rw [if_pos (decide_eq_true h1), decide_eq_false h2]
      exact ⟨fun h => Bool.noConfusion h, fun h => absurd h.2 h2⟩
  · rw [if_neg (by rw [decide_eq_false h1]; decide)]
    exact ⟨fun h => Bool.noConfusion h, fun h => absurd h.1 h1⟩
theorem ok_iff (l : List SL) : impl_LotsOk.ok l = true ↔ Right l := by
  unfold impl_LotsOk.ok
  have hc := chk_go l l.length 0 (by omega) (by omega)
  rw [List.drop_zero] at hc
  by_cases h1 : impl_LotsOk.chk l l.length 0 = true
  · rw [if_pos h1]
    have hg := hc.1 h1
    by_cases h2 : (l.length : Int) > 120
    · rw [if_pos h2]
      exact ⟨fun h => Bool.noConfusion h, fun h => absurd h.1 (by omega)⟩
    · rw [if_neg h2]
      have h3 : l.length ≤ 120 := by omega
      constructor
      · intro h
        have h4 : l.any (impl_LotsOk.over l) = false := by simpa using h
        refine ⟨h3, hg.1, hg.2, fun a b => ?_⟩
        by_cases hx : ∃ x ∈ l, x.f0 = a ∧ x.f1 = b
        · obtain ⟨x, hx, rfl, rfl⟩ := hx
          have h5 := List.any_eq_false.1 h4 x hx
          exact (over_iff l h3 hg.1 x).1 (by simpa using h5)
        · have h6 := qty_none (a := a) (b := b) (l := l) fun x hm hk => hx ⟨x, hm, hk⟩
          rw [h6.1, h6.2]
          unfold Amt
          omega
      · intro h
        have h4 : l.any (impl_LotsOk.over l) = false := by
          rw [List.any_eq_false]
          intro x _
          rw [(over_iff l h3 hg.1 x).2 (h.2.2.2 x.f0 x.f1)]
          decide
        rw [h4]
        rfl
  · rw [if_neg h1]
    exact ⟨fun h => Bool.noConfusion h, fun h => absurd (hc.2 ⟨h.2.1, h.2.2.1⟩) h1⟩
theorem some_s (a lo : Int) : spec_l1Some.f a lo = some (decide (lo ≤ a ∧ a ≤ 1000000000000000)) := by
  unfold spec_l1Some.f
  first | (rw [in_s]; rfl) | (rw [in_s])
theorem right_s (x : SL) : spec_l5Right.f x.f0 x.f1 x.f2 x.f3 x.f4 = some (decide (Form x)) := by
  unfold spec_l5Right.f
  simp only [no_s, in_s, some_s, Option.bind_some, decide_eq_true_iff]
  by_cases h0 : No x.f0
  · by_cases h1 : No x.f1
    · by_cases h2 : 1 ≤ x.f2 ∧ x.f2 ≤ 1000000000
      · by_cases h3 : 1 ≤ x.f3 ∧ x.f3 ≤ 1000000000000000
        · by_cases h4 : 0 ≤ x.f4 ∧ x.f4 ≤ 1000000000000000
          · rw [if_pos h0, if_pos h1, if_pos h2, if_pos h3, decide_eq_true h4, decide_eq_true (show Form x from ⟨h0, h1, h2, h3, h4⟩)]
          · rw [if_pos h0, if_pos h1, if_pos h2, if_pos h3, decide_eq_false h4, decide_eq_false (fun g : Form x => h4 g.2.2.2.2)]
        · rw [if_pos h0, if_pos h1, if_pos h2, if_neg h3, decide_eq_false (fun g : Form x => h3 g.2.2.2.1)]
      · rw [if_pos h0, if_pos h1, if_neg h2, decide_eq_false (fun g : Form x => h2 g.2.2.1)]
    · rw [if_pos h0, if_neg h1, decide_eq_false (fun g : Form x => h1 g.2.1)]
  · rw [if_neg h0, decide_eq_false (fun g : Form x => h0 g.1)]
theorem before_s (x y : SL) : spec_l5Before.f x.f0 x.f1 x.f2 x.f3 x.f4 y.f0 y.f1 y.f2 y.f3 y.f4 = some (decide (Lt x y)) := by
  unfold spec_l5Before.f spec_l4Before.f Lt
  by_cases h0 : x.f0 < y.f0
  · simp [h0]
  · by_cases h1 : x.f0 = y.f0
    · by_cases h2 : x.f1 < y.f1
      · simp [h1, h2]
      · by_cases h3 : x.f1 = y.f1 <;> simp [h1, h2, h3]
    · simp [h0, h1]
def base (p : Option SL) (q a b : Int) : Int := match p with
  | none => 0
  | some y => if y.f0 = a ∧ y.f1 = b then q else 0
def Aft (p : Option SL) (x : SL) : Prop := match p with
  | none => True
  | some y => Lt y x
instance (p : Option SL) (x : SL) : Decidable (Aft p x) := by unfold Aft; split <;> exact inferInstance
def go : Option SL → Int → Int → List SL → Bool
  | _, _, _, [] => true
  | p, q, c, x :: xs => if Form x ∧ Aft p x then (if Amt (base p q x.f0 x.f1 + x.f3) ∧ Amt (base p c x.f0 x.f1 + x.f4) then go (some x) (base p q x.f0 x.f1 + x.f3) (base p c x.f0 x.f1 + x.f4) xs else false) else false
theorem chn_cons (p : Option SL) (x : SL) (xs : List SL) : Chn p (x :: xs) ↔ Aft p x ∧ Chn (some x) xs := by
  cases p with
  | none => exact ⟨fun h => ⟨trivial, h⟩, fun h => h.2⟩
  | some y => exact Iff.rfl
theorem base_pos (p : Option SL) (q a b : Int) (h0 : 0 ≤ q) (h1 : q ≤ 1000000000000000) : 0 ≤ base p q a b ∧ base p q a b ≤ 1000000000000000 := by
  cases p with
  | none => simp only [base]; omega
  | some y => simp only [base]; split <;> omega
theorem base_own (x : SL) (q : Int) : base (some x) q x.f0 x.f1 = q := by simp only [base]; rw [if_pos ⟨trivial, trivial⟩]
theorem base_other {x : SL} {q a b : Int} (h : ¬(x.f0 = a ∧ x.f1 = b)) : base (some x) q a b = 0 := by simp only [base]; rw [if_neg h]
theorem gone {y x : SL} {xs : List SL} {a b : Int} (hl : Lt y x) (hc : Chn (some x) xs) (hy : y.f0 = a ∧ y.f1 = b) (hx : ¬(x.f0 = a ∧ x.f1 = b)) : qty a b xs = 0 ∧ cst a b xs = 0 :=
  qty_none fun z hz hk => by
    have h1 := Chn.all hc z hz
    unfold Lt at h1 hl
    omega
theorem go_iff : ∀ (l : List SL) (p : Option SL) (q c : Int), 0 ≤ q → q ≤ 1000000000000000 → 0 ≤ c → c ≤ 1000000000000000 →
    (go p q c l = true ↔ (∀ x ∈ l, Form x) ∧ Chn p l ∧ ∀ a b, Amt (base p q a b + qty a b l) ∧ Amt (base p c a b + cst a b l))
  | [], p, q, c, q0, q1, c0, c1 => by
    refine ⟨fun _ => ⟨fun x hx => (by cases hx), by cases p <;> trivial, fun a b => ?_⟩, fun _ => by cases p <;> rfl⟩
    have h1 := base_pos p q a b q0 q1
    have h2 := base_pos p c a b c0 c1
    simp only [qty, cst]
    unfold Amt
    omega
  | x :: xs, p, q, c, q0, q1, c0, c1 => by
    have hb1 := base_pos p q x.f0 x.f1 q0 q1
    have hb2 := base_pos p c x.f0 x.f1 c0 c1
    rw [go, chn_cons]
    by_cases h1 : Form x ∧ Aft p x
    · rw [if_pos h1]
      have hfx := h1.1
      unfold Form at hfx
      by_cases h2 : Amt (base p q x.f0 x.f1 + x.f3) ∧ Amt (base p c x.f0 x.f1 + x.f4)
      · rw [if_pos h2]
        have ih := go_iff xs (some x) (base p q x.f0 x.f1 + x.f3) (base p c x.f0 x.f1 + x.f4) (by omega) h2.1.2 (by omega) h2.2.2
        have key : Chn (some x) xs → ∀ a b, ((Amt (base (some x) (base p q x.f0 x.f1 + x.f3) a b + qty a b xs) ∧ Amt (base (some x) (base p c x.f0 x.f1 + x.f4) a b + cst a b xs)) ↔ (Amt (base p q a b + qty a b (x :: xs)) ∧ Amt (base p c a b + cst a b (x :: xs)))) := by
          intro hc a b
          by_cases hk : x.f0 = a ∧ x.f1 = b
          · obtain ⟨rfl, rfl⟩ := hk
            rw [base_own, base_own]
            simp only [qty, cst]
            rw [if_pos ⟨trivial, trivial⟩, if_pos ⟨trivial, trivial⟩, Int.add_assoc, Int.add_assoc]
          · rw [base_other hk, base_other hk]
            simp only [qty, cst]
            rw [if_neg hk, if_neg hk]
            simp only [Int.zero_add]
            cases p with
            | none => simp only [base, Int.zero_add]
            | some y =>
              by_cases hy : y.f0 = a ∧ y.f1 = b
              · have hg := gone h1.2 hc hy hk
                simp only [base]
                rw [if_pos hy, if_pos hy, hg.1, hg.2]
                unfold Amt
                omega
              · rw [base_other hy, base_other hy]
                simp only [Int.zero_add]
        constructor
        · intro h
          obtain ⟨f1, f2, f3⟩ := ih.1 h
          refine ⟨fun z hz => ?_, ⟨h1.2, f2⟩, fun a b => (key f2 a b).1 (f3 a b)⟩
          rcases List.mem_cons.1 hz with rfl | hz
          · exact h1.1
          · exact f1 z hz
        · rintro ⟨f1, ⟨_, f2⟩, f3⟩
          exact ih.2 ⟨fun z hz => f1 z (List.mem_cons_of_mem _ hz), f2, fun a b => (key f2 a b).2 (f3 a b)⟩
      · rw [if_neg h2]
        refine ⟨fun h => Bool.noConfusion h, fun h => absurd ?_ h2⟩
        obtain ⟨f1, ⟨_, f2⟩, f3⟩ := h
        have h3 := f3 x.f0 x.f1
        have h4 := qty_pos (a := x.f0) (b := x.f1) (l := xs) fun z hz => f1 z (List.mem_cons_of_mem _ hz)
        simp only [qty, cst] at h3
        rw [if_pos ⟨trivial, trivial⟩, if_pos ⟨trivial, trivial⟩] at h3
        unfold Amt at h3 ⊢
        omega
    · rw [if_neg h1]
      exact ⟨fun h => Bool.noConfusion h, fun h => absurd ⟨h.1 x (List.mem_cons_self ..), h.2.1.1⟩ h1⟩
theorem lotsOk_s (l : List SL) : Ev (fun k => spec_LotsOk.f k l) (impl_LotsOk.ok l) := by
  unfold spec_LotsOk.f
  have hok : impl_LotsOk.ok l = (if (l.length : Int) > 120 then false else go none 0 0 l) := by
    rw [Bool.eq_iff_iff, ok_iff]
    by_cases h : (l.length : Int) > 120
    · rw [if_pos h]
      exact ⟨fun g => absurd g.1 (by omega), fun g => Bool.noConfusion g⟩
    · rw [if_neg h, go_iff l none 0 0 (by omega) (by omega) (by omega) (by omega)]
      unfold Right
      simp only [base, Int.zero_add]
      exact ⟨fun g => g.2, fun g => ⟨by omega, g⟩⟩
  rw [hok]
  by_cases hn : (l.length : Int) > 120
  · rw [if_pos hn]
    exact Ev_all_k fun k => by rw [if_pos hn]
  · rw [if_neg hn]
    have h := Ev_goes' (fun k (s : Int × Int) i => spec_LotsOk.l0 k l s.1 s.2 i) l.length (fun i s => go (prev l i) s.1 s.2 (l.drop i)) (fun i s => 0 ≤ s.1 ∧ s.1 ≤ 1000000000000000 ∧ 0 ≤ s.2 ∧ s.2 ≤ 1000000000000000)
      (fun s hs => Ev_one fun k => by
        simp only [spec_LotsOk.l0]
        rw [if_neg (by omega), List.drop_length]
        cases prev l l.length <;> rfl)
      (fun i s hi hs => by
        obtain ⟨q, c⟩ := s
        obtain ⟨q0, q1, c0, c1⟩ := hs
        simp only at q0 q1 c0 c1
        show (Ev (fun k => spec_LotsOk.l0 k l q c (i : Int)) (go (prev l i) q c (l.drop i))) ∨ _
        have ep : prev l (i + 1) = some (l.getD i z37) := by unfold prev; rw [if_pos (by omega), Nat.add_sub_cancel]
        rw [drop_getD z37 l i hi]
        show (Ev (fun k => spec_LotsOk.l0 k l q c (i : Int)) (go (prev l i) q c (l.getD i z37 :: l.drop (i + 1)))) ∨ ∃ s' : Int × Int, _ ∧ go (prev l (i + 1)) s'.1 s'.2 (l.drop (i + 1)) = go (prev l i) q c (l.getD i z37 :: l.drop (i + 1)) ∧ _
        rw [ep]
        generalize hx : l.getD i z37 = x
        rw [go]
        have hb1 := base_pos (prev l i) q x.f0 x.f1 q0 q1
        have hb2 := base_pos (prev l i) c x.f0 x.f1 c0 c1
        -- the round's last part
        have e3 : Form x → ∀ (a b : Int), 0 ≤ a → a ≤ 1000000000000000 → 0 ≤ b → b ≤ 1000000000000000 → ∀ k, spec_LotsOk.j3 (k + 1) l a b (i : Int) x.f0 x.f1 x.f2 x.f3 x.f4 = if Amt (a + x.f3) ∧ Amt (b + x.f4) then spec_LotsOk.l0 k l (a + x.f3) (b + x.f4) ((i + 1 : Nat) : Int) else some false := by
          intro hf a b a0 a1 b0 b1 k
          unfold Form at hf
          simp only [spec_LotsOk.j3]
          rw [w64_in (a + x.f3) (by omega) (by omega), w64_in (b + x.f4) (by omega) (by omega), w_succ hi (by omega), amt_s, amt_s, Option.bind_some, Option.bind_some]
          by_cases h1 : Amt (a + x.f3)
          · by_cases h2 : Amt (b + x.f4)
            · rw [if_pos (decide_eq_true h1), if_pos (decide_eq_true h2), if_pos ⟨h1, h2⟩]
            · rw [if_pos (decide_eq_true h1), if_neg (by rw [decide_eq_false h2]; decide), if_neg fun g => h2 g.2]
          · rw [if_neg (by rw [decide_eq_false h1]; decide), if_neg fun g => h1 g.1]
        have e2 : ∀ k (t : Bool), spec_LotsOk.j2 (k + 1) l q c (i : Int) t x.f0 x.f1 x.f2 x.f3 x.f4 = if t = true then spec_LotsOk.j3 k l 0 0 (i : Int) x.f0 x.f1 x.f2 x.f3 x.f4 else spec_LotsOk.j3 k l q c (i : Int) x.f0 x.f1 x.f2 x.f3 x.f4 := fun k t => by simp only [spec_LotsOk.j2]
        -- what the round comes to, once the pair's own amounts are known
        have fin : ∀ a b, Form x → a = base (prev l i) q x.f0 x.f1 → b = base (prev l i) c x.f0 x.f1 → Aft (prev l i) x → (∀ r, Ev (fun k => spec_LotsOk.j3 k l a b (i : Int) x.f0 x.f1 x.f2 x.f3 x.f4) r → Ev (fun k => spec_LotsOk.l0 k l q c (i : Int)) r) →
            (Ev (fun k => spec_LotsOk.l0 k l q c (i : Int)) (if Form x ∧ Aft (prev l i) x then (if Amt (base (prev l i) q x.f0 x.f1 + x.f3) ∧ Amt (base (prev l i) c x.f0 x.f1 + x.f4) then go (some x) (base (prev l i) q x.f0 x.f1 + x.f3) (base (prev l i) c x.f0 x.f1 + x.f4) (l.drop (i + 1)) else false) else false)) ∨
            ∃ s' : Int × Int, (0 ≤ s'.1 ∧ s'.1 ≤ 1000000000000000 ∧ 0 ≤ s'.2 ∧ s'.2 ≤ 1000000000000000) ∧ go (some x) s'.1 s'.2 (l.drop (i + 1)) = (if Form x ∧ Aft (prev l i) x then (if Amt (base (prev l i) q x.f0 x.f1 + x.f3) ∧ Amt (base (prev l i) c x.f0 x.f1 + x.f4) then go (some x) (base (prev l i) q x.f0 x.f1 + x.f3) (base (prev l i) c x.f0 x.f1 + x.f4) (l.drop (i + 1)) else false) else false) ∧
              ∀ r, Ev (fun k => spec_LotsOk.l0 k l s'.1 s'.2 ((i + 1 : Nat) : Int)) r → Ev (fun k => spec_LotsOk.l0 k l q c (i : Int)) r := by
          rintro a b hf rfl rfl ha step
          rw [if_pos ⟨hf, ha⟩]
          have hf' := hf
          unfold Form at hf'
          by_cases hm : Amt (base (prev l i) q x.f0 x.f1 + x.f3) ∧ Amt (base (prev l i) c x.f0 x.f1 + x.f4)
          · rw [if_pos hm]
            refine .inr ⟨(base (prev l i) q x.f0 x.f1 + x.f3, base (prev l i) c x.f0 x.f1 + x.f4), ⟨by show 0 ≤ _ + x.f3; omega, hm.1.2, by show 0 ≤ _ + x.f4; omega, hm.2.2⟩, rfl, fun r hr => ?_⟩
            refine step r (Ev.step (fun k => ?_) hr)
            show spec_LotsOk.j3 (k + 1) l _ _ (i : Int) x.f0 x.f1 x.f2 x.f3 x.f4 = _
            rw [e3 hf _ _ hb1.1 hb1.2 hb2.1 hb2.2 k, if_pos hm]
          · rw [if_neg hm]
            refine .inl (step false (Ev_one fun k => ?_))
            show spec_LotsOk.j3 (k + 1) l _ _ (i : Int) x.f0 x.f1 x.f2 x.f3 x.f4 = _
            rw [e3 hf _ _ hb1.1 hb1.2 hb2.1 hb2.2 k, if_neg hm]
        by_cases hf : Form x
        · by_cases h0 : 0 < i
          · have e0 : prev l i = some (l.getD (i - 1) z37) := by unfold prev; rw [if_pos h0]
            generalize hy : l.getD (i - 1) z37 = y at e0
            have eA : ∀ k, spec_LotsOk.l0 (k + 1) l q c (i : Int) = spec_LotsOk.j1 k l q c (i : Int) (!decide (Lt y x)) x.f0 x.f1 x.f2 x.f3 x.f4 := by
              intro k
              simp only [spec_LotsOk.l0]
              rw [if_pos (by omega), if_pos (by omega), w_pred hi h0 (by omega)]
              simp only [rdL, hx, hy, right_s, before_s, Option.bind_some, decide_eq_true_iff]
              rw [if_pos hf, if_pos (by omega), if_pos (by omega), if_pos (by omega)]
            by_cases hl : Lt y x
            · have ha : Aft (prev l i) x := by rw [e0]; exact hl
              have eB : ∀ k, spec_LotsOk.j1 (k + 1) l q c (i : Int) false x.f0 x.f1 x.f2 x.f3 x.f4 = spec_LotsOk.j2 k l q c (i : Int) (!decide (y.f0 = x.f0 ∧ y.f1 = x.f1)) x.f0 x.f1 x.f2 x.f3 x.f4 := by
                intro k
                simp only [spec_LotsOk.j1]
                rw [if_neg (by decide), if_neg (by omega), w_pred hi h0 (by omega), if_pos (by omega), if_pos (by omega)]
                simp only [rdL, hy]
                by_cases k1 : x.f0 = y.f0
                · rw [if_pos k1]
                  by_cases k2 : x.f1 = y.f1
                  · rw [decide_eq_true (show y.f0 = x.f0 ∧ y.f1 = x.f1 from ⟨k1.symm, k2.symm⟩), k2]
                    simp
                  · rw [decide_eq_false (show ¬(y.f0 = x.f0 ∧ y.f1 = x.f1) from fun g => k2 g.2.symm), show (x.f1 != y.f1) = true by simpa using k2]
                    rfl
                · rw [if_neg k1, decide_eq_false (show ¬(y.f0 = x.f0 ∧ y.f1 = x.f1) from fun g => k1 g.1.symm)]
                  rfl
              by_cases hk : y.f0 = x.f0 ∧ y.f1 = x.f1
              · refine fin q c hf (by rw [e0]; simp only [base]; rw [if_pos hk]) (by rw [e0]; simp only [base]; rw [if_pos hk]) ha fun r hr => ?_
                refine Ev.step (fun k => by rw [eA k, decide_eq_true hl]) (Ev.step (fun k => by show spec_LotsOk.j1 (k + 1) l q c (i : Int) false x.f0 x.f1 x.f2 x.f3 x.f4 = _; rw [eB k, decide_eq_true hk]) (Ev.step (fun k => by show spec_LotsOk.j2 (k + 1) l q c (i : Int) false x.f0 x.f1 x.f2 x.f3 x.f4 = _; rw [e2 k, if_neg (by decide)]) hr))
              · refine fin 0 0 hf (by rw [e0]; simp only [base]; rw [if_neg hk]) (by rw [e0]; simp only [base]; rw [if_neg hk]) ha fun r hr => ?_
                refine Ev.step (fun k => by rw [eA k, decide_eq_true hl]) (Ev.step (fun k => by show spec_LotsOk.j1 (k + 1) l q c (i : Int) false x.f0 x.f1 x.f2 x.f3 x.f4 = _; rw [eB k, decide_eq_false hk]) (Ev.step (fun k => by show spec_LotsOk.j2 (k + 1) l q c (i : Int) true x.f0 x.f1 x.f2 x.f3 x.f4 = _; rw [e2 k, if_pos rfl]) hr))
            · have ha : ¬(Form x ∧ Aft (prev l i) x) := by rw [e0]; exact fun g => hl g.2
              rw [if_neg ha]
              refine .inl (Ev.step (fun k => by rw [eA k, decide_eq_false hl]) (Ev_one fun k => ?_))
              show spec_LotsOk.j1 (k + 1) l q c (i : Int) true x.f0 x.f1 x.f2 x.f3 x.f4 = _
              simp only [spec_LotsOk.j1]
              rw [if_pos trivial]
          · have e0 : prev l i = none := by unfold prev; rw [if_neg h0]
            have ha : Aft (prev l i) x := by rw [e0]; exact trivial
            have hz : (i : Int) = 0 := by omega
            refine fin 0 0 hf (by rw [e0]; rfl) (by rw [e0]; rfl) ha fun r hr => ?_
            refine Ev.step (f := fun k => spec_LotsOk.j1 k l q c (i : Int) false x.f0 x.f1 x.f2 x.f3 x.f4) (fun k => ?_) (Ev.step (f := fun k => spec_LotsOk.j2 k l q c (i : Int) true x.f0 x.f1 x.f2 x.f3 x.f4) (fun k => ?_) (Ev.step (fun k => by show spec_LotsOk.j2 (k + 1) l q c (i : Int) true x.f0 x.f1 x.f2 x.f3 x.f4 = _; rw [e2 k, if_pos rfl]) hr))
            · show spec_LotsOk.l0 (k + 1) l q c (i : Int) = _
              simp only [spec_LotsOk.l0]
              rw [if_pos (by omega), if_pos (by omega)]
              simp only [rdL, hx, right_s, Option.bind_some, decide_eq_true_iff]
              rw [if_pos hf, if_neg (by omega)]
            · show spec_LotsOk.j1 (k + 1) l q c (i : Int) false x.f0 x.f1 x.f2 x.f3 x.f4 = _
              simp only [spec_LotsOk.j1]
              rw [if_neg (by decide), if_pos hz]
        · rw [if_neg (fun g => hf g.1)]
          refine .inl (Ev.step (f := fun k => spec_LotsOk.j1 k l q c (i : Int) true x.f0 x.f1 x.f2 x.f3 x.f4) (fun k => ?_) (Ev_one fun k => ?_))
          · show spec_LotsOk.l0 (k + 1) l q c (i : Int) = _
            simp only [spec_LotsOk.l0]
            rw [if_pos (by omega), if_pos (by omega)]
            simp only [rdL, hx, right_s, Option.bind_some, decide_eq_true_iff]
            rw [if_neg hf]
          · show spec_LotsOk.j1 (k + 1) l q c (i : Int) true x.f0 x.f1 x.f2 x.f3 x.f4 = _
            simp only [spec_LotsOk.j1]
            rw [if_pos trivial]) l.length 0 (0, 0) (by omega) (by omega) ⟨by decide, by decide, by decide, by decide⟩
    refine Ev.congr (fun k => by rw [if_neg hn]; rfl) h
end Go.Proofs.Ytomanpmffjkkgaa.E1
namespace Go.Proofs.Ytomanpmffjkkgaa.E2
open Go Go.RowKit Go.Proofs.Ytomanpmffjkkgaa.P Go.Proofs.YtomanpmffjkkgaaW.PrintWords Go.Proofs.YtomanpmffjkkgaaW.PrintLast Go.Proofs.Ytomanpmffjkkgaa.EV Go.Proofs.Ytomanpmffjkkgaa.I1 Go.Proofs.Ytomanpmffjkkgaa.N1 Go.Proofs.Ytomanpmffjkkgaa.E1
def Own (a b : Int) (x : SL) : Bool := decide (x.f0 = a ∧ x.f1 = b)
def ofL (a b : Int) (l : List SL) : List SL := l.filter (Own a b)
def outL (a b : Int) (l : List SL) : List SL := l.filter fun x => !Own a b x
theorem of_len (a b : Int) (l : List SL) : (ofL a b l).length ≤ l.length := List.length_filter_le _ _
theorem out_len (a b : Int) (l : List SL) : (outL a b l).length ≤ l.length := List.length_filter_le _ _
theorem split_s (l : List SL) (a b : Int) (hl : l.length ≤ 1048577) : Ev (fun k => spec_l5Split.f k l a b) (ofL a b l, outL a b l) := by
  unfold spec_l5Split.f
  have h := Ev_goes (fun k (s : List SL × List SL) i => spec_l5Split.l0 k l a b s.1 s.2 i) l.length (fun i s => (s.1 ++ ofL a b (l.drop i), s.2 ++ outL a b (l.drop i))) (fun i s => s.1.length ≤ i ∧ s.2.length ≤ i)
    (fun s _ => Ev_one fun k => by
      simp only [spec_l5Split.l0]
      rw [if_neg (by omega), List.drop_length]
      simp [ofL, outL])
    (fun i s hi hs => by
      obtain ⟨p, q⟩ := s
      simp only at hs
      have e : l.drop i = l.getD i z37 :: l.drop (i + 1) := drop_getD z37 l i hi
      by_cases h1 : (l.getD i z37).f0 = a ∧ (l.getD i z37).f1 = b
      · refine .inr ⟨(p ++ [l.getD i z37], q), ⟨by show (p ++ [_]).length ≤ i + 1; rw [List.length_append, List.length_singleton]; omega, Nat.le_succ_of_le hs.2⟩, ?_, fun k => ?_⟩
        · have hO : Own a b (l.getD i z37) = true := decide_eq_true h1
          rw [e]
          simp only [ofL, outL]
          rw [List.filter_cons_of_pos hO, List.filter_cons_of_neg (by rw [hO]; decide), List.append_assoc]
          rfl
        · show spec_l5Split.l0 (k + 1) l a b p q (i : Int) = _
          simp only [spec_l5Split.l0]
          rw [if_pos (by omega), if_pos (by omega), w_succ hi (by omega)]
          simp only [rdL]
          rw [if_pos h1.1, if_pos h1.2, if_pos (by omega)]
      · have step : ∀ k, spec_l5Split.l0 (k + 1) l a b p q (i : Int) = spec_l5Split.l0 k l a b p (q ++ [l.getD i z37]) ((i + 1 : Nat) : Int) := fun k => by
          simp only [spec_l5Split.l0]
          rw [if_pos (by omega), if_pos (by omega), w_succ hi (by omega)]
          simp only [rdL]
          by_cases h2 : (l.getD i z37).f0 = a
          · rw [if_pos h2, if_neg fun h3 => h1 ⟨h2, h3⟩, if_pos (by omega)]
          · rw [if_neg h2, if_pos (by omega)]
        refine .inr ⟨(p, q ++ [l.getD i z37]), ⟨Nat.le_succ_of_le hs.1, by show (q ++ [_]).length ≤ i + 1; rw [List.length_append, List.length_singleton]; omega⟩, ?_, step⟩
        have hO : Own a b (l.getD i z37) = false := decide_eq_false h1
        rw [e]
        simp only [ofL, outL]
        rw [List.filter_cons_of_neg (by rw [hO]; decide), List.filter_cons_of_pos (by rw [hO]; decide), List.append_assoc]
        rfl) l.length 0 ([], []) (by omega) (by omega) ⟨Nat.le_refl _, Nat.le_refl _⟩
  exact h
theorem qty_s (l : List SL) (hl : l.length ≤ 1048577) : Ev (fun k => spec_l5Qty.f k l) (impl_LotsOk.sum3 l 0) := by
  unfold spec_l5Qty.f
  have h := Ev_goes (fun k (s : Int) i => spec_l5Qty.l0 k l s i) l.length (fun i s => impl_LotsOk.sum3 (l.drop i) s) (fun _ _ => True)
    (fun s _ => Ev_one fun k => by
      simp only [spec_l5Qty.l0]
      rw [if_neg (by omega), List.drop_length]
      rfl)
    (fun i s hi _ => .inr ⟨wrap64 (s + (l.getD i z37).f3), trivial, by rw [drop_getD z37 l i hi]; rfl, fun k => by
      show spec_l5Qty.l0 (k + 1) l s (i : Int) = _
      simp only [spec_l5Qty.l0]
      rw [if_pos (by omega), if_pos (by omega), w_succ hi (by omega), rdL]⟩) l.length 0 0 (by omega) (by omega) trivial
  exact h
theorem cost_s (l : List SL) (hl : l.length ≤ 1048577) : Ev (fun k => spec_l5Cost.f k l) (impl_LotsOk.sum4 l 0) := by
  unfold spec_l5Cost.f
  have h := Ev_goes (fun k (s : Int) i => spec_l5Cost.l0 k l s i) l.length (fun i s => impl_LotsOk.sum4 (l.drop i) s) (fun _ _ => True)
    (fun s _ => Ev_one fun k => by
      simp only [spec_l5Cost.l0]
      rw [if_neg (by omega), List.drop_length]
      rfl)
    (fun i s hi _ => .inr ⟨wrap64 (s + (l.getD i z37).f4), trivial, by rw [drop_getD z37 l i hi]; rfl, fun k => by
      show spec_l5Cost.l0 (k + 1) l s (i : Int) = _
      simp only [spec_l5Cost.l0]
      rw [if_pos (by omega), if_pos (by omega), w_succ hi (by omega), rdL]⟩) l.length 0 0 (by omega) (by omega) trivial
  exact h
theorem sums_i (l : List SL) (hl : l.length ≤ 1048577) : Ev (fun k => impl_sumLots.f k l) (impl_LotsOk.sum3 l 0, impl_LotsOk.sum4 l 0) := by
  unfold impl_sumLots.f
  have h := Ev_goes (fun k (s : Int × Int) i => impl_sumLots.l0 k s.1 s.2 l (l.length : Int) i) l.length (fun i s => (impl_LotsOk.sum3 (l.drop i) s.1, impl_LotsOk.sum4 (l.drop i) s.2)) (fun _ _ => True)
    (fun s _ => Ev_one fun k => by
      simp only [impl_sumLots.l0]
      rw [if_neg (by omega), List.drop_length]
      rfl)
    (fun i s hi _ => .inr ⟨(wrap64 (s.1 + (l.getD i z37).f3), wrap64 (s.2 + (l.getD i z37).f4)), trivial, by rw [drop_getD z37 l i hi]; rfl, fun k => by
      show impl_sumLots.l0 (k + 1) s.1 s.2 l (l.length : Int) (i : Int) = _
      simp only [impl_sumLots.l0]
      rw [if_pos (by omega), if_pos (by omega), if_pos (by omega), w_succ hi (by omega), rdL]⟩) l.length 0 (0, 0) (by omega) (by omega) trivial
  exact h
def lotsL (l : List SL) (a b : Int) : List SL := if impl_LotsOk.ok l = true then ofL a b l else []
theorem lots_len (l : List SL) (a b : Int) : (lotsL l a b).length ≤ l.length := by
  unfold lotsL
  split
  · exact of_len a b l
  · exact Nat.zero_le _
theorem lotsOf_s (l : List SL) (a b : Int) (hl : l.length ≤ 1048576) : Ev (fun k => spec_LotsOf.f k l a b) (lotsL l a b) := by
  unfold spec_LotsOf.f lotsL
  refine Ev_bind (lotsOk_s l) ?_
  by_cases h : impl_LotsOk.ok l = true
  · rw [if_pos h]
    refine Ev.congr (fun k => if_pos h) ?_
    exact Ev_bind (split_s l a b (by omega)) (Ev_all_k fun k => rfl)
  · rw [if_neg h]
    exact Ev_all_k fun k => if_neg h
theorem lotsOf_i (l : List SL) (a b : Int) (hl : l.length ≤ 1048576) : impl_LotsOf.f l a b = some (lotsL l a b) := by
  unfold impl_LotsOf.f impl_LotsOk.f lotsL
  rw [if_pos (by omega), Option.bind_some]
  by_cases h : impl_LotsOk.ok l = true
  · rw [if_pos h, if_pos h]
    unfold impl_lotsOf.f
    rw [if_pos (by omega)]
    rfl
  · rw [if_neg h, if_neg h]
end Go.Proofs.Ytomanpmffjkkgaa.E2
namespace Go.Proofs.Ytomanpmffjkkgaa.E3
open Go Go.RowKit Go.Proofs.Ytomanpmffjkkgaa.P Go.Proofs.YtomanpmffjkkgaaW.PrintWords Go.Proofs.YtomanpmffjkkgaaW.PrintLast Go.Proofs.Ytomanpmffjkkgaa.EV Go.Proofs.Ytomanpmffjkkgaa.I1 Go.Proofs.Ytomanpmffjkkgaa.N1 Go.Proofs.Ytomanpmffjkkgaa.E1
def mergeL : List SL → List SL → List SL
  | [], ys => ys
  | x :: xs, [] => x :: xs
  | x :: xs, y :: ys => if Lt x y then x :: mergeL xs (y :: ys) else y :: mergeL (x :: xs) ys
termination_by xs ys => xs.length + ys.length
theorem merge_nil (xs : List SL) : mergeL xs [] = xs := by cases xs <;> simp [mergeL]
theorem nil_merge (ys : List SL) : mergeL [] ys = ys := by simp [mergeL]
theorem merge_len : ∀ (xs ys : List SL), (mergeL xs ys).length = xs.length + ys.length
  | [], ys => by simp [mergeL]
  | x :: xs, [] => by simp [mergeL]
  | x :: xs, y :: ys => by
    rw [mergeL]
    split
    · rw [List.length_cons, merge_len xs (y :: ys)]
      simp only [List.length_cons]
      omega
    · rw [List.length_cons, merge_len (x :: xs) ys]
      simp only [List.length_cons]
      omega
termination_by xs ys => xs.length + ys.length
theorem merge_go (a b : List SL) (hm : a.length + b.length ≤ 3000000) : ∀ (n : Nat) (acc : List SL) (i j : Nat), (a.length - i) + (b.length - j) = n → i ≤ a.length → j ≤ b.length → acc.length ≤ i + j →
    Ev (fun k => spec_l5Merge.l0 k a b acc (i : Int) (j : Int)) (acc ++ mergeL (a.drop i) (b.drop j)) := by
  intro n
  induction n with
  | zero =>
    intro acc i j hn hi hj _
    have e1 : a.drop i = [] := List.drop_eq_nil_of_le (by omega)
    have e2 : b.drop j = [] := List.drop_eq_nil_of_le (by omega)
    rw [e1, e2, merge_nil, List.append_nil]
    refine Ev.step (f := fun k => spec_l5Merge.j1 k a b acc (i : Int) (j : Int) false) (fun k => ?_) (Ev_one fun k => ?_)
    · show spec_l5Merge.l0 (k + 1) a b acc (i : Int) (j : Int) = _
      simp only [spec_l5Merge.l0]
      rw [if_neg (by omega), decide_eq_false (by omega)]
    · show spec_l5Merge.j1 (k + 1) a b acc (i : Int) (j : Int) false = _
      simp only [spec_l5Merge.j1]
      rw [if_neg (by decide)]
  | succ n ih =>
    intro acc i j hn hi hj ha
    have e0 : ∀ k, spec_l5Merge.l0 (k + 1) a b acc (i : Int) (j : Int) = spec_l5Merge.j1 k a b acc (i : Int) (j : Int) true := fun k => by
      simp only [spec_l5Merge.l0]
      by_cases h1 : i < a.length
      · rw [if_pos (by omega)]
      · rw [if_neg (by omega), decide_eq_true (by omega)]
    refine Ev.step e0 ?_
    have takeA : i < a.length → mergeL (a.drop i) (b.drop j) = a.getD i z37 :: mergeL (a.drop (i + 1)) (b.drop j) → (∀ k, spec_l5Merge.j1 (k + 1) a b acc (i : Int) (j : Int) true = spec_l5Merge.l0 k a b (acc ++ [a.getD i z37]) ((i + 1 : Nat) : Int) (j : Int)) → Ev (fun k => spec_l5Merge.j1 k a b acc (i : Int) (j : Int) true) (acc ++ mergeL (a.drop i) (b.drop j)) := by
      intro h1 h2 h3
      have h4 := ih (acc ++ [a.getD i z37]) (i + 1) j (by omega) (by omega) hj (by rw [List.length_append, List.length_singleton]; omega)
      rw [h2, show acc ++ a.getD i z37 :: mergeL (a.drop (i + 1)) (b.drop j) = (acc ++ [a.getD i z37]) ++ mergeL (a.drop (i + 1)) (b.drop j) by rw [List.append_assoc]; rfl]
      exact Ev.step h3 h4
    have takeB : j < b.length → mergeL (a.drop i) (b.drop j) = b.getD j z37 :: mergeL (a.drop i) (b.drop (j + 1)) → (∀ k, spec_l5Merge.j1 (k + 1) a b acc (i : Int) (j : Int) true = spec_l5Merge.l0 k a b (acc ++ [b.getD j z37]) (i : Int) ((j + 1 : Nat) : Int)) → Ev (fun k => spec_l5Merge.j1 k a b acc (i : Int) (j : Int) true) (acc ++ mergeL (a.drop i) (b.drop j)) := by
      intro h1 h2 h3
      have h4 := ih (acc ++ [b.getD j z37]) i (j + 1) (by omega) hi (by omega) (by rw [List.length_append, List.length_singleton]; omega)
      rw [h2, show acc ++ b.getD j z37 :: mergeL (a.drop i) (b.drop (j + 1)) = (acc ++ [b.getD j z37]) ++ mergeL (a.drop i) (b.drop (j + 1)) by rw [List.append_assoc]; rfl]
      exact Ev.step h3 h4
    by_cases hb : j = b.length
    · have h1 : i < a.length := by omega
      refine takeA h1 (by rw [show b.drop j = [] from List.drop_eq_nil_of_le (by omega), merge_nil, merge_nil, drop_getD z37 a i h1]) fun k => ?_
      simp only [spec_l5Merge.j1]
      rw [if_pos trivial, if_pos (by omega), if_pos (by omega), if_pos (by omega), if_pos (by omega), w_succ h1 (by omega)]
      simp only [rdL]
    · have h2 : j < b.length := by omega
      by_cases h1 : i < a.length
      · by_cases hl : Lt (a.getD i z37) (b.getD j z37)
        · refine takeA h1 (by rw [drop_getD z37 a i h1, drop_getD z37 b j h2, mergeL, if_pos hl]) fun k => ?_
          simp only [spec_l5Merge.j1]
          rw [if_pos trivial, if_neg (by omega), if_pos (by omega), if_pos (by omega), if_pos (by omega), if_pos (by omega), w_succ h1 (by omega)]
          simp only [rdL, before_s, Option.bind_some, decide_eq_true_iff]
          rw [if_pos hl, if_pos (by omega)]
        · refine takeB h2 (by rw [drop_getD z37 a i h1, drop_getD z37 b j h2, mergeL, if_neg hl]) fun k => ?_
          simp only [spec_l5Merge.j1]
          rw [if_pos trivial, if_neg (by omega), if_pos (by omega), if_pos (by omega), if_pos (by omega), if_pos (by omega), w_succ h2 (by omega)]
          simp only [rdL, before_s, Option.bind_some, decide_eq_true_iff]
          rw [if_neg hl, if_pos (by omega)]
      · refine takeB h2 (by rw [show a.drop i = [] from List.drop_eq_nil_of_le (by omega), nil_merge, nil_merge, drop_getD z37 b j h2]) fun k => ?_
        simp only [spec_l5Merge.j1]
        rw [if_pos trivial, if_neg (by omega), if_neg (by omega), if_pos (by omega), if_pos (by omega), if_pos (by omega), w_succ h2 (by omega)]
        simp only [rdL]
theorem merge_s (a b : List SL) (hm : a.length + b.length ≤ 3000000) : Ev (fun k => spec_l5Merge.f k a b) (mergeL a b) := by
  unfold spec_l5Merge.f
  have h := merge_go a b hm _ [] 0 0 rfl (Nat.zero_le _) (Nat.zero_le _) (Nat.le_refl _)
  rw [List.drop_zero, List.drop_zero, List.nil_append] at h
  exact h
end Go.Proofs.Ytomanpmffjkkgaa.E3
namespace Go.Proofs.Ytomanpmffjkkgaa.E4
open Go Go.RowKit Go.Proofs.Ytomanpmffjkkgaa.P Go.Proofs.YtomanpmffjkkgaaW.PrintWords Go.Proofs.YtomanpmffjkkgaaW.PrintLast Go.Proofs.Ytomanpmffjkkgaa.EV Go.Proofs.Ytomanpmffjkkgaa.I1 Go.Proofs.Ytomanpmffjkkgaa.N1 Go.Proofs.Ytomanpmffjkkgaa.E1 Go.Proofs.Ytomanpmffjkkgaa.E2 Go.Proofs.Ytomanpmffjkkgaa.E3
def openL (l : List SL) (x : SL) : List SL × Int := if impl_LotsOk.ok l = true ∧ E1.Form x then (if impl_LotsOk.ok (mergeL l [x]) = true then (mergeL l [x], 0) else (l, 3)) else ([], 1)
theorem open_len (l : List SL) (x : SL) : (openL l x).1.length ≤ l.length + 1 := by
  unfold openL
  split
  · split
    · show (mergeL l [x]).length ≤ _
      rw [merge_len]
      simp
    · exact Nat.le_succ _
  · exact Nat.zero_le _
theorem open_s (l : List SL) (x : SL) (hl : l.length ≤ 1048576) : Ev (fun k => spec_LotOpen.f k l x.f0 x.f1 x.f2 x.f3 x.f4) (openL l x) := by
  unfold spec_LotOpen.f openL
  have bad : Ev (fun k => spec_LotOpen.j0 k l true x.f0 x.f1 x.f2 x.f3 x.f4) (([] : List SL), (1 : Int)) := Ev_one fun k => by
    simp only [spec_LotOpen.j0]
    rw [if_pos trivial]
  refine Ev_bind (lotsOk_s l) ?_
  by_cases h : impl_LotsOk.ok l = true
  · refine Ev.congr (fun k => by rw [if_pos h, right_s, Option.bind_some]) ?_
    by_cases hf : E1.Form x
    · rw [if_pos ⟨h, hf⟩]
      refine Ev.step (f := fun k => (spec_l5Merge.f k l [x]).bind fun t => (spec_LotsOk.f k t).bind fun t2 => if t2 = true then some (t, 0) else (some (([] : List SL) : List SL)).bind fun y => if y.length + l.length < 3518437208883 then some (y ++ l, 3) else none) (fun k => ?_) ?_
      · rw [decide_eq_true hf]
        simp only [spec_LotOpen.j0]
        rw [if_neg (by decide)]
      · refine Ev_bind (merge_s l [x] (by simp; omega)) (Ev_bind (lotsOk_s _) ?_)
        by_cases ho : impl_LotsOk.ok (mergeL l [x]) = true
        · exact Ev_all_k fun k => by
            rw [if_pos ho, if_pos ho]
        · exact Ev_all_k fun k => by
            rw [if_neg ho, if_neg ho, Option.bind_some, if_pos (by simp; omega), List.nil_append]
    · rw [if_neg fun g => hf g.2]
      exact Ev.congr (fun k => by rw [decide_eq_false hf]; rfl) bad
  · rw [if_neg fun g => h g.1]
    exact Ev.congr (fun k => if_neg h) bad
end Go.Proofs.Ytomanpmffjkkgaa.E4
namespace Go.Proofs.Ytomanpmffjkkgaa.E5
open Go Go.RowKit Go.Proofs.Ytomanpmffjkkgaa.P Go.Proofs.YtomanpmffjkkgaaW.PrintWords Go.Proofs.YtomanpmffjkkgaaW.PrintLast Go.Proofs.Ytomanpmffjkkgaa.EV Go.Proofs.Ytomanpmffjkkgaa.I1 Go.Proofs.Ytomanpmffjkkgaa.N1 Go.Proofs.Ytomanpmffjkkgaa.E1 Go.Proofs.Ytomanpmffjkkgaa.E2 Go.Proofs.Ytomanpmffjkkgaa.E3
def Key (x y : SL) : Prop := x.f0 = y.f0 ∧ x.f1 = y.f1 ∧ x.f2 = y.f2
theorem tri (x y : SL) : Lt x y ∨ Lt y x ∨ Key x y := by
  unfold Lt Key
  omega
theorem Lt.not {x y : SL} (h : Lt x y) : ¬Lt y x := by
  unfold Lt at *
  omega
theorem Lt.nkey {x y : SL} (h : Lt x y) : ¬Key x y := by
  unfold Lt Key at *
  omega
theorem Lt.nkey' {x y : SL} (h : Lt x y) : ¬Key y x := by
  unfold Lt Key at *
  omega
theorem chn_pw : ∀ (l : List SL) (y : SL), Chn (some y) l → (y :: l).Pairwise Lt
  | [], y, _ => by simp
  | x :: xs, y, h => by
    have ih := chn_pw xs x h.2
    refine List.pairwise_cons.2 ⟨fun z hz => ?_, ih⟩
    exact Chn.all h z hz
theorem right_pw {l : List SL} (h : Chn none l) : l.Pairwise Lt := by
  cases l with
  | nil => exact List.Pairwise.nil
  | cons x xs => exact chn_pw xs x h
theorem pw_chn : ∀ (l : List SL) (y : SL), (y :: l).Pairwise Lt → Chn (some y) l
  | [], y, _ => trivial
  | x :: xs, y, h => by
    have h2 := List.pairwise_cons.1 h
    exact ⟨h2.1 x (List.mem_cons_self ..), pw_chn xs x h2.2⟩
theorem pw_chn0 {l : List SL} (h : l.Pairwise Lt) : Chn none l := by
  cases l with
  | nil => trivial
  | cons x xs => exact pw_chn xs x h
theorem pw_uniq : ∀ {l : List SL}, l.Pairwise Lt → ∀ x ∈ l, ∀ y ∈ l, Key x y → x = y
  | [], _, x, hx => by cases hx
  | z :: zs, h, x, hx => by
    intro y hy hk
    have h2 := List.pairwise_cons.1 h
    rcases List.mem_cons.1 hx with e1 | hx1
    · rcases List.mem_cons.1 hy with e2 | hy1
      · rw [e1, e2]
      · rw [e1] at hk
        exact absurd hk (Lt.nkey (h2.1 y hy1))
    · rcases List.mem_cons.1 hy with e2 | hy1
      · rw [e2] at hk
        exact absurd hk (Lt.nkey' (h2.1 x hx1))
      · exact pw_uniq h2.2 x hx1 y hy1 hk
theorem merge_perm : ∀ (xs ys : List SL), (mergeL xs ys).Perm (xs ++ ys)
  | [], ys => by rw [nil_merge]; exact List.Perm.refl _
  | x :: xs, [] => by rw [merge_nil, List.append_nil]
  | x :: xs, y :: ys => by
    rw [mergeL]
    split
    · exact (merge_perm xs (y :: ys)).cons x
    · refine ((merge_perm (x :: xs) ys).cons y).trans ?_
      exact (List.perm_middle (l₁ := x :: xs) (l₂ := ys) (a := y)).symm
termination_by xs ys => xs.length + ys.length
theorem merge_pw : ∀ (xs ys : List SL), xs.Pairwise Lt → ys.Pairwise Lt → (∀ x ∈ xs, ∀ y ∈ ys, ¬Key x y) → (mergeL xs ys).Pairwise Lt
  | [], ys, _, h, _ => by rw [nil_merge]; exact h
  | x :: xs, [], h, _, _ => by rw [merge_nil]; exact h
  | x :: xs, y :: ys, hx, hy, hk => by
    have hx2 := List.pairwise_cons.1 hx
    have hy2 := List.pairwise_cons.1 hy
    rw [mergeL]
    split
    · rename_i hl
      refine List.pairwise_cons.2 ⟨fun z hz => ?_, merge_pw xs (y :: ys) hx2.2 hy fun a ha b hb => hk a (List.mem_cons_of_mem _ ha) b hb⟩
      rcases List.mem_append.1 ((merge_perm xs (y :: ys)).mem_iff.1 hz) with h | h
      · exact hx2.1 z h
      · rcases List.mem_cons.1 h with rfl | h
        · exact hl
        · exact hl.trans (hy2.1 z h)
    · rename_i hl
      have hl2 : Lt y x := by
        rcases tri x y with h | h | h
        · exact absurd h hl
        · exact h
        · exact absurd h (hk x (List.mem_cons_self ..) y (List.mem_cons_self ..))
      refine List.pairwise_cons.2 ⟨fun z hz => ?_, merge_pw (x :: xs) ys hx hy2.2 fun a ha b hb => hk a ha b (List.mem_cons_of_mem _ hb)⟩
      rcases List.mem_append.1 ((merge_perm (x :: xs) ys).mem_iff.1 hz) with h | h
      · rcases List.mem_cons.1 h with rfl | h
        · exact hl2
        · exact hl2.trans (hx2.1 z h)
      · exact hy2.1 z h
termination_by xs ys => xs.length + ys.length
theorem srt_eq {m s : List SL} (hp : m.Perm s) (hs : s.Pairwise Lt) : impl_withLots.srt m = s := by
  unfold impl_withLots.srt
  have hle : ∀ x y : SL, (!decide (impl_LotsOk.cmp y x < 0)) = true ↔ ¬Lt y x := fun x y => by
    have h := impl_withLots.cmp_iff y x
    have h2 : (impl_LotsOk.cmp y x < 0) ↔ Lt y x := h
    rw [Bool.not_eq_true', decide_eq_false_iff_not, h2]
  have h1 := List.pairwise_mergeSort (le := fun x y => !decide (impl_LotsOk.cmp y x < 0)) (fun a b c h g => by
    rw [hle] at *
    unfold Lt at *
    omega) (fun a b => by
    rw [Bool.or_eq_true, hle, hle]
    unfold Lt
    omega) m
  refine List.Perm.eq_of_pairwise (le := fun x y => (!decide (impl_LotsOk.cmp y x < 0)) = true) (fun a b ha hb h g => ?_) h1 (hs.imp fun h => (hle _ _).2 (Lt.not h)) ((List.mergeSort_perm _ _).trans hp)
  rw [hle] at h g
  have ha2 : a ∈ s := (((List.mergeSort_perm m _).trans hp).mem_iff).1 ha
  refine pw_uniq hs a ha2 b hb ?_
  rcases tri a b with k | k | k
  · exact absurd k g
  · exact absurd k h
  · exact k
theorem with_i (l : List SL) (a b : Int) (m s : List SL) (hl : l.length ≤ 1048576) (hm : m.length ≤ 1048576) (hw : l.Pairwise Lt) (hp : m.Perm s) (hs : s.Pairwise Lt) (ho : ∀ x ∈ s, x.f0 = a ∧ x.f1 = b) :
    impl_withLots.f l a b m = some (mergeL (outL a b l) s) ∧ (mergeL (outL a b l) s).Pairwise Lt := by
  have hr : impl_withLots.rest l a b = outL a b l := rfl
  have hrp : (outL a b l).Pairwise Lt := hw.filter _
  have hk : ∀ x ∈ outL a b l, ∀ y ∈ s, ¬Key x y := fun x hx y hy k => by
    have h1 := (List.mem_filter.1 hx).2
    have h2 := ho y hy
    unfold Key at k
    unfold Own at h1
    rw [Bool.not_eq_true', decide_eq_false_iff_not] at h1
    exact h1 ⟨k.1.trans h2.1, k.2.1.trans h2.2⟩
  have hmp := merge_pw _ _ hrp hs hk
  have hpp : (outL a b l ++ m).Perm (mergeL (outL a b l) s) := (hp.append_left _).trans (merge_perm _ _).symm
  refine ⟨?_, hmp⟩
  unfold impl_withLots.f
  rw [hr, if_pos ⟨by omega, by omega, fun x hx y hy k => by
    have := pw_uniq hmp x (hpp.mem_iff.1 hx) y (hpp.mem_iff.1 hy) k
    rw [this]
    exact ⟨rfl, rfl⟩⟩, srt_eq hpp hmp]
end Go.Proofs.Ytomanpmffjkkgaa.E5
namespace Go.Proofs.Ytomanpmffjkkgaa.L1
open Go Go.RowKit
theorem u64w (n : Int) : IntKind.u64.wrap n = n % 18446744073709551616 := by simp [IntKind.wrap, IntKind.bits, IntKind.signed]
theorem u64w_id (n : Int) (h0 : 0 ≤ n) (h1 : n < 18446744073709551616) : IntKind.u64.wrap n = n := by rw [u64w]; omega
theorem wraps_u64 (n : Int) (h₀ : 0 ≤ n) (h₁ : n < 2 ^ 64) : IntKind.u64.wrap n = n := u64w_id n h₀ (by simpa using h₁)
theorem and32 (x : Int) (h0 : 0 ≤ x) (h1 : x < 18446744073709551616) : Go.bits .and .u64 x 4294967295 = x % 4294967296 :=
  bits_mask .u64 64 (by decide) wraps_u64 32 (by decide) x h0 (by simpa using h1)
theorem w64_id (n : Int) (h0 : -9223372036854775808 ≤ n) (h1 : n ≤ 9223372036854775807) : wrap64 n = n := by unfold wrap64; omega
theorem mul64 (a b : Int) (ha0 : 0 ≤ a) (ha : a < 18446744073709551616) (hb0 : 0 ≤ b) (hb : b < 18446744073709551616) :
    IntKind.u64.wrap ((IntKind.u64.wrap ((IntKind.u64.wrap ((a / 4294967296) * (b / 4294967296))) + ((IntKind.u64.wrap ((IntKind.u64.wrap ((a / 4294967296) * (Go.bits .and .u64 b 4294967295))) + ((IntKind.u64.wrap ((Go.bits .and .u64 a 4294967295) * (Go.bits .and .u64 b 4294967295))) / 4294967296))) / 4294967296))) + ((IntKind.u64.wrap ((Go.bits .and .u64 (IntKind.u64.wrap ((IntKind.u64.wrap ((a / 4294967296) * (Go.bits .and .u64 b 4294967295))) + ((IntKind.u64.wrap ((Go.bits .and .u64 a 4294967295) * (Go.bits .and .u64 b 4294967295))) / 4294967296))) 4294967295) + (IntKind.u64.wrap ((Go.bits .and .u64 a 4294967295) * (b / 4294967296))))) / 4294967296)) = a * b / 18446744073709551616 := by
  obtain ⟨x, rfl⟩ := Int.eq_ofNat_of_zero_le ha0
  obtain ⟨y, rfl⟩ := Int.eq_ofNat_of_zero_le hb0
  have hx : x < 18446744073709551616 := by omega
  have hy : y < 18446744073709551616 := by omega
  obtain ⟨h1, h2, h3, h4⟩ := Lib.mul64_hi x y hx hy
  have e1 : ((x : Int) / 4294967296) = ((x / 4294967296 : Nat) : Int) := by omega
  have e2 : ((y : Int) / 4294967296) = ((y / 4294967296 : Nat) : Int) := by omega
  have e3 : ((x : Int) % 4294967296) = ((x % 4294967296 : Nat) : Int) := by omega
  have e4 : ((y : Int) % 4294967296) = ((y % 4294967296 : Nat) : Int) := by omega
  have ep : ((x : Int) * (y : Int)) = ((x * y : Nat) : Int) := (Int.natCast_mul _ _).symm
  have eh : ((x * y / 18446744073709551616 : Nat) : Int) = ((x * y : Nat) : Int) / 18446744073709551616 := by omega
  have ma := Lib.half_mul_le (a := x / 4294967296) (b := y / 4294967296) (by omega) (by omega)
  have mb := Lib.half_mul_le (a := x / 4294967296) (b := y % 4294967296) (by omega) (by omega)
  have mc := Lib.half_mul_le (a := x % 4294967296) (b := y / 4294967296) (by omega) (by omega)
  have md := Lib.half_mul_le (a := x % 4294967296) (b := y % 4294967296) (by omega) (by omega)
  rw [and32 _ ha0 ha, and32 _ hb0 hb, e1, e2, e3, e4, ep, ← eh, ← h4]
  have p1 : (((x / 4294967296 : Nat) : Int) * ((y / 4294967296 : Nat) : Int)) = ((x / 4294967296 * (y / 4294967296) : Nat) : Int) := (Int.natCast_mul _ _).symm
  have p2 : (((x / 4294967296 : Nat) : Int) * ((y % 4294967296 : Nat) : Int)) = ((x / 4294967296 * (y % 4294967296) : Nat) : Int) := (Int.natCast_mul _ _).symm
  have p3 : (((x % 4294967296 : Nat) : Int) * ((y / 4294967296 : Nat) : Int)) = ((x % 4294967296 * (y / 4294967296) : Nat) : Int) := (Int.natCast_mul _ _).symm
  have p4 : (((x % 4294967296 : Nat) : Int) * ((y % 4294967296 : Nat) : Int)) = ((x % 4294967296 * (y % 4294967296) : Nat) : Int) := (Int.natCast_mul _ _).symm
  rw [p1, p2, p3, p4]
  generalize x / 4294967296 * (y / 4294967296) = a at *
  generalize x / 4294967296 * (y % 4294967296) = b at *
  generalize x % 4294967296 * (y / 4294967296) = c at *
  generalize x % 4294967296 * (y % 4294967296) = d at *
  have q1 : IntKind.u64.wrap (a : Int) = a := u64w_id _ (by omega) (by omega)
  have q2 : IntKind.u64.wrap (b : Int) = b := u64w_id _ (by omega) (by omega)
  have q3 : IntKind.u64.wrap (c : Int) = c := u64w_id _ (by omega) (by omega)
  have q4 : IntKind.u64.wrap (d : Int) = d := u64w_id _ (by omega) (by omega)
  rw [q1, q2, q3, q4]
  have q5 : IntKind.u64.wrap ((b : Int) + (d : Int) / 4294967296) = (b : Int) + (d : Int) / 4294967296 := u64w_id _ (by omega) (by omega)
  rw [q5, and32 _ (by omega) (by omega)]
  have q6 : IntKind.u64.wrap (((b : Int) + (d : Int) / 4294967296) % 4294967296 + (c : Int)) = ((b : Int) + (d : Int) / 4294967296) % 4294967296 + (c : Int) := u64w_id _ (by omega) (by omega)
  have q7 : IntKind.u64.wrap ((a : Int) + ((b : Int) + (d : Int) / 4294967296) / 4294967296) = (a : Int) + ((b : Int) + (d : Int) / 4294967296) / 4294967296 := u64w_id _ (by omega) (by omega)
  rw [q6, q7, u64w]
  omega
end Go.Proofs.Ytomanpmffjkkgaa.L1
namespace Go.Proofs.Ytomanpmffjkkgaa.A2
open Go Go.RowKit Go.Proofs.Ytomanpmffjkkgaa.P Go.Proofs.YtomanpmffjkkgaaW.PrintWords Go.Proofs.YtomanpmffjkkgaaW.PrintLast Go.Proofs.YtomanpmffjkkgaaW.PrintMore Go.Proofs.Ytomanpmffjkkgaa.EV Go.Proofs.Ytomanpmffjkkgaa.L1 Go.Proofs.Ytomanpmffjkkgaa.I1
def Bits (x : Int) (n : Nat) : Prop := (x = 0 ∧ n = 0) ∨ (0 < n ∧ 2 ^ (n - 1) ≤ x ∧ x < 2 ^ n)
def tab : ByteArray := (⟨#[0, 1, 2, 2, 3, 3, 3, 3, 4, 4, 4, 4, 4, 4, 4, 4, 5, 5, 5, 5, 5, 5, 5, 5, 5, 5, 5, 5, 5, 5, 5, 5, 6, 6, 6, 6, 6, 6, 6, 6, 6, 6, 6, 6, 6, 6, 6, 6, 6, 6, 6, 6, 6, 6, 6, 6, 6, 6, 6, 6, 6, 6, 6, 6, 7, 7, 7, 7, 7, 7, 7, 7, 7, 7, 7, 7, 7, 7, 7, 7, 7, 7, 7, 7, 7, 7, 7, 7, 7, 7, 7, 7, 7, 7, 7, 7, 7, 7, 7, 7, 7, 7, 7, 7, 7, 7, 7, 7, 7, 7, 7, 7, 7, 7, 7, 7, 7, 7, 7, 7, 7, 7, 7, 7, 7, 7, 7, 7, 8, 8, 8, 8, 8, 8, 8, 8, 8, 8, 8, 8, 8, 8, 8, 8, 8, 8, 8, 8, 8, 8, 8, 8, 8, 8, 8, 8, 8, 8, 8, 8, 8, 8, 8, 8, 8, 8, 8, 8, 8, 8, 8, 8, 8, 8, 8, 8, 8, 8, 8, 8, 8, 8, 8, 8, 8, 8, 8, 8, 8, 8, 8, 8, 8, 8, 8, 8, 8, 8, 8, 8, 8, 8, 8, 8, 8, 8, 8, 8, 8, 8, 8, 8, 8, 8, 8, 8, 8, 8, 8, 8, 8, 8, 8, 8, 8, 8, 8, 8, 8, 8, 8, 8, 8, 8, 8, 8, 8, 8, 8, 8, 8, 8, 8, 8, 8, 8, 8, 8, 8, 8, 8, 8, 8, 8, 8, 8]⟩ : ByteArray)
theorem tab8 : ∀ x : Fin 256, 0 ≤ bt tab (x.val : Int) ∧ bt tab (x.val : Int) ≤ 8 ∧ ((x.val = 0 ∧ bt tab (x.val : Int) = 0) ∨ (0 < bt tab (x.val : Int) ∧ (2 : Int) ^ ((bt tab (x.val : Int)).toNat - 1) ≤ x.val ∧ (x.val : Int) < 2 ^ (bt tab (x.val : Int)).toNat)) := by decide +kernel
theorem tab_at (x : Int) (h0 : 0 ≤ x) (h1 : x < 256) : ∃ n : Nat, bt tab x = (n : Int) ∧ n ≤ 8 ∧ Bits x n := by
  obtain ⟨m, rfl⟩ := Int.eq_ofNat_of_zero_le h0
  obtain ⟨a, b, c⟩ : 0 ≤ bt tab (m : Int) ∧ bt tab (m : Int) ≤ 8 ∧ ((m = 0 ∧ bt tab (m : Int) = 0) ∨ (0 < bt tab (m : Int) ∧ (2 : Int) ^ ((bt tab (m : Int)).toNat - 1) ≤ m ∧ (m : Int) < 2 ^ (bt tab (m : Int)).toNat)) := tab8 ⟨m, by omega⟩
  refine ⟨(bt tab (m : Int)).toNat, by omega, by omega, ?_⟩
  rcases c with ⟨c1, c2⟩ | ⟨c1, c2, c3⟩
  · exact .inl ⟨by omega, by omega⟩
  · exact .inr ⟨by omega, c2, c3⟩
theorem bits_up {x y : Int} {n : Nat} (s : Nat) (hs : y = x / 2 ^ s) (hy : 0 < y) (h : Bits y n) : Bits x (n + s) := by
  rcases h with ⟨h, _⟩ | ⟨h0, h1, h2⟩
  · omega
  · have hp : (0 : Int) < 2 ^ s := Int.pow_pos (by decide)
    have e1 : (2 : Int) ^ (n + s - 1) = 2 ^ (n - 1) * 2 ^ s := by rw [← Int.pow_add]; congr 1; omega
    have e2 : (2 : Int) ^ (n + s) = 2 ^ n * 2 ^ s := Int.pow_add _ _ _
    refine .inr ⟨by omega, ?_, ?_⟩
    · rw [e1]
      exact Int.le_trans (Int.mul_le_mul_of_nonneg_right h1 (Int.le_of_lt hp)) (by rw [hs]; exact Int.ediv_mul_le x (Int.ne_of_gt hp))
    · rw [e2]
      have := Int.lt_ediv_add_one_mul_self x hp
      rw [← hs] at this
      exact Int.lt_of_lt_of_le this (Int.mul_le_mul_of_nonneg_right (by omega) (Int.le_of_lt hp))
def body8 (x c : Int) : Option Int := if x ≥ 65536 then (if (x / 65536) ≥ 256 then (if 0 ≤ (((x / 65536) / 256) % 256) then (if (((x / 65536) / 256) % 256) < 256 then (some (wrap64 ((wrap64 ((wrap64 (c + 16)) + 8)) + (wrap64 (bt tab (((x / 65536) / 256) % 256)))))) else (none)) else (none)) else (if 0 ≤ ((x / 65536) % 256) then (if ((x / 65536) % 256) < 256 then (some (wrap64 ((wrap64 (c + 16)) + (wrap64 (bt tab ((x / 65536) % 256)))))) else (none)) else (none))) else (if x ≥ 256 then (if 0 ≤ ((x / 256) % 256) then (if ((x / 256) % 256) < 256 then (some (wrap64 ((wrap64 (c + 8)) + (wrap64 (bt tab ((x / 256) % 256)))))) else (none)) else (none)) else (if 0 ≤ ((x) % 256) then (if ((x) % 256) < 256 then (some (wrap64 (c + (wrap64 (bt tab ((x) % 256)))))) else (none)) else (none)))
theorem body8_is (k : Nat) (x c : Int) : bits_Len64.j0 (k + 1) x c = body8 x c := rfl
theorem len64j (x c : Int) (h0 : 0 ≤ x) (h1 : x < 4294967296) (hc : 0 ≤ c) (hc2 : c ≤ 32) : ∃ n : Nat, n ≤ 32 ∧ Bits x n ∧ ∀ k, bits_Len64.j0 (k + 1) x c = some (c + n) := by
  by_cases a : x ≥ 65536
  · by_cases b : x / 65536 ≥ 256
    · obtain ⟨n, e, hn, hb⟩ := tab_at (x / 65536 / 256) (by omega) (by omega)
      refine ⟨n + 24, by omega, bits_up 24 (by omega) (by omega) hb, fun k => ?_⟩
      rw [body8_is]
      unfold body8
      rw [if_pos a, if_pos b, show x / 65536 / 256 % 256 = x / 65536 / 256 by omega, if_pos (by omega), if_pos (by omega)]
      rw [e, w64_id (c + 16) (by omega) (by omega), w64_id (c + 16 + 8) (by omega) (by omega), w64_id (n : Int) (by omega) (by omega), w64_id _ (by omega) (by omega)]
      exact congrArg some (by omega)
    · obtain ⟨n, e, hn, hb⟩ := tab_at (x / 65536) (by omega) (by omega)
      refine ⟨n + 16, by omega, bits_up 16 (by omega) (by omega) hb, fun k => ?_⟩
      rw [body8_is]
      unfold body8
      rw [if_pos a, if_neg b, show x / 65536 % 256 = x / 65536 by omega, if_pos (by omega), if_pos (by omega)]
      rw [e, w64_id (c + 16) (by omega) (by omega), w64_id (n : Int) (by omega) (by omega), w64_id _ (by omega) (by omega)]
      exact congrArg some (by omega)
  · by_cases b : x ≥ 256
    · obtain ⟨n, e, hn, hb⟩ := tab_at (x / 256) (by omega) (by omega)
      refine ⟨n + 8, by omega, bits_up 8 (by omega) (by omega) hb, fun k => ?_⟩
      rw [body8_is]
      unfold body8
      rw [if_neg a, if_pos b, show x / 256 % 256 = x / 256 by omega, if_pos (by omega), if_pos (by omega)]
      rw [e, w64_id (c + 8) (by omega) (by omega), w64_id (n : Int) (by omega) (by omega), w64_id _ (by omega) (by omega)]
      exact congrArg some (by omega)
    · obtain ⟨n, e, hn, hb⟩ := tab_at x (by omega) (by omega)
      refine ⟨n, by omega, hb, fun k => ?_⟩
      rw [body8_is]
      unfold body8
      rw [if_neg a, if_neg b, show x % 256 = x by omega, if_pos (by omega), if_pos (by omega)]
      rw [e, w64_id (n : Int) (by omega) (by omega), w64_id _ (by omega) (by omega)]
theorem zeros64 (y : Int) (h0 : 0 < y) (h1 : y < 18446744073709551616) : ∃ s : Nat, s ≤ 63 ∧ 9223372036854775808 ≤ y * 2 ^ s ∧ y * 2 ^ s < 18446744073709551616 ∧ ∀ k, bits_LeadingZeros64.f (k + 1) y = some (s : Int) := by
  have fin : ∀ n : Nat, n ≤ 64 → Bits y n → ∃ s : Nat, s ≤ 63 ∧ (s : Int) = 64 - n ∧ 9223372036854775808 ≤ y * 2 ^ s ∧ y * 2 ^ s < 18446744073709551616 := by
    intro n hn hb
    rcases hb with ⟨h, _⟩ | ⟨a, b, c⟩
    · omega
    · have hp : (0 : Int) < 2 ^ (64 - n) := Int.pow_pos (by decide)
      refine ⟨64 - n, by omega, by omega, ?_, ?_⟩
      · have e : (9223372036854775808 : Int) = 2 ^ (n - 1) * 2 ^ (64 - n) := by rw [← Int.pow_add, show n - 1 + (64 - n) = 63 by omega]; decide
        rw [e]
        exact Int.mul_le_mul_of_nonneg_right b (Int.le_of_lt hp)
      · have e : (18446744073709551616 : Int) = 2 ^ n * 2 ^ (64 - n) := by rw [← Int.pow_add, show n + (64 - n) = 64 by omega]; decide
        rw [e]
        exact Int.mul_lt_mul_of_pos_right c hp
  by_cases a : y ≥ 4294967296
  · obtain ⟨n, hn, hb, e⟩ := len64j (y / 4294967296) 32 (by omega) (by omega) (by decide) (by decide)
    obtain ⟨s, s0, s1, s2, s3⟩ := fin (n + 32) (by omega) (bits_up 32 (by omega) (by omega) hb)
    refine ⟨s, s0, s2, s3, fun k => ?_⟩
    unfold bits_LeadingZeros64.f bits_Len64.f
    rw [if_pos a, e, Option.bind_some, w64_id _ (by omega) (by omega)]
    exact congrArg some (by omega)
  · obtain ⟨n, hn, hb, e⟩ := len64j y 0 (by omega) (by omega) (by decide) (by decide)
    obtain ⟨s, s0, s1, s2, s3⟩ := fin n (by omega) hb
    refine ⟨s, s0, s2, s3, fun k => ?_⟩
    unfold bits_LeadingZeros64.f bits_Len64.f
    rw [if_neg a, e, Option.bind_some, w64_id _ (by omega) (by omega)]
    exact congrArg some (by omega)
structure Trial (yn1 yn0 n u q r : Int) : Prop where
  q0 : 0 ≤ q
  q1 : q ≤ 4294967297
  r0 : 0 ≤ r
  r1 : r < 4294967296
  e : q * yn1 + r = n
  up : n * 4294967296 + u < (q * yn1) * 4294967296 + q * yn0 + yn1 * 4294967296 + yn0
structure Halves (yn1 yn0 n u : Int) : Prop where
  a0 : 2147483648 ≤ yn1
  a1 : yn1 < 4294967296
  b0 : 0 ≤ yn0
  b1 : yn0 < 4294967296
  u0 : 0 ≤ u
  u1 : u < 4294967296
  n0 : 0 ≤ n
  n1 : n < yn1 * 4294967296 + yn0
theorem digit_lt {yn1 yn0 n u q : Int} (h : Halves yn1 yn0 n u) (hq : (q * yn1) * 4294967296 + q * yn0 ≤ n * 4294967296 + u) : q < 4294967296 := by
  obtain ⟨a0, a1, b0, b1, u0, u1, n0, n1⟩ := h
  rcases (by omega : q < 4294967296 ∨ 4294967296 ≤ q) with hlt | hge
  · exact hlt
  · exfalso
    have p1 : 4294967296 * yn1 ≤ q * yn1 := Int.mul_le_mul_of_nonneg_right hge (by omega)
    have p2 : 4294967296 * yn0 ≤ q * yn0 := Int.mul_le_mul_of_nonneg_right hge b0
    generalize q * yn1 = A at *
    generalize q * yn0 = C at *
    omega
theorem trial_down {yn1 yn0 n u q r : Int} (h : Halves yn1 yn0 n u) (t : Trial yn1 yn0 n u q r) (ht : 4294967296 ≤ q ∨ 4294967296 * r + u < q * yn0) :
    1 ≤ q ∧ n * 4294967296 + u < (q * yn1) * 4294967296 + q * yn0 ∧ (q - 1) * yn1 = q * yn1 - yn1 ∧ (q - 1) * yn0 = q * yn0 - yn0 ∧ q * yn0 - yn0 ≤ 18446744069414584320 := by
  obtain ⟨a0, a1, b0, b1, u0, u1, n0, n1⟩ := h
  obtain ⟨q0, q1, r0, r1, e, up⟩ := t
  have e1 : (q - 1) * yn1 = q * yn1 - yn1 := by rw [Int.sub_mul, Int.one_mul]
  have e0 : (q - 1) * yn0 = q * yn0 - yn0 := by rw [Int.sub_mul, Int.one_mul]
  have h1 : 1 ≤ q := by
    rcases (by omega : q = 0 ∨ 1 ≤ q) with hz | hz
    · subst hz
      rw [Int.zero_mul] at ht
      omega
    · exact hz
  have hb : (q - 1) * yn0 ≤ 4294967296 * 4294967295 := Int.mul_le_mul (by omega) (by omega) b0 (by decide)
  refine ⟨h1, ?_, e1, e0, by omega⟩
  rcases ht with ht | ht
  · have p1 : 4294967296 * yn1 ≤ q * yn1 := Int.mul_le_mul_of_nonneg_right ht (by omega)
    have p2 : 4294967296 * yn0 ≤ q * yn0 := Int.mul_le_mul_of_nonneg_right ht b0
    generalize q * yn1 = A at *
    generalize q * yn0 = C at *
    omega
  · generalize q * yn1 = A at *
    generalize q * yn0 = C at *
    omega
def Right (yn1 yn0 n u q : Int) : Prop := 0 ≤ q ∧ (q * yn1) * 4294967296 + q * yn0 ≤ n * 4294967296 + u ∧ n * 4294967296 + u < (q * yn1) * 4294967296 + q * yn0 + yn1 * 4294967296 + yn0
theorem trial_stop {yn1 yn0 n u q r : Int} (t : Trial yn1 yn0 n u q r) (h2 : ¬ 4294967296 * r + u < q * yn0) : Right yn1 yn0 n u q := by
  obtain ⟨q0, q1, r0, r1, e, up⟩ := t
  refine ⟨q0, ?_, up⟩
  generalize q * yn1 = A at *
  generalize q * yn0 = C at *
  omega
theorem trial_next {yn1 yn0 n u q r : Int} (h : Halves yn1 yn0 n u) (t : Trial yn1 yn0 n u q r) (ht : 4294967296 ≤ q ∨ 4294967296 * r + u < q * yn0) (hr : r + yn1 < 4294967296) : Trial yn1 yn0 n u (q - 1) (r + yn1) := by
  obtain ⟨h1, h2, e1, e0, hb⟩ := trial_down h t ht
  obtain ⟨a0, a1, b0, b1, u0, u1, n0, n1⟩ := h
  obtain ⟨q0, q1, r0, r1, e, up⟩ := t
  refine ⟨by omega, by omega, by omega, hr, ?_, ?_⟩
  · rw [e1]
    omega
  · rw [e1, e0]
    generalize q * yn1 = A at *
    generalize q * yn0 = C at *
    omega
theorem trial_last {yn1 yn0 n u q r : Int} (h : Halves yn1 yn0 n u) (t : Trial yn1 yn0 n u q r) (ht : 4294967296 ≤ q ∨ 4294967296 * r + u < q * yn0) (hr : 4294967296 ≤ r + yn1) : Right yn1 yn0 n u (q - 1) := by
  obtain ⟨h1, h2, e1, e0, hb⟩ := trial_down h t ht
  obtain ⟨a0, a1, b0, b1, u0, u1, n0, n1⟩ := h
  obtain ⟨q0, q1, r0, r1, e, up⟩ := t
  unfold Right
  rw [e1, e0]
  generalize q * yn1 = A at *
  generalize q * yn0 = C at *
  omega
theorem test_is {yn1 yn0 n u q r : Int} (h : Halves yn1 yn0 n u) (t : Trial yn1 yn0 n u q r) (hq : ¬ q ≥ 4294967296) :
    decide (IntKind.u64.wrap (q * yn0) > IntKind.u64.wrap (IntKind.u64.wrap (4294967296 * r) + u)) = decide (4294967296 * r + u < q * yn0) := by
  obtain ⟨a0, a1, b0, b1, u0, u1, n0, n1⟩ := h
  obtain ⟨q0, q1, r0, r1, e, up⟩ := t
  have hb : q * yn0 ≤ 4294967295 * 4294967295 := Int.mul_le_mul (by omega) (by omega) b0 (by decide)
  have hz : 0 ≤ q * yn0 := Int.mul_nonneg q0 b0
  rw [u64w_id (q * yn0) hz (by omega), u64w_id (4294967296 * r) (by omega) (by omega), u64w_id _ (by omega) (by omega)]
theorem trial_first {yn1 yn0 n u : Int} (h : Halves yn1 yn0 n u) : Trial yn1 yn0 n u (n / yn1) (n - n / yn1 * yn1) ∧ 0 ≤ n / yn1 * yn1 ∧ n / yn1 * yn1 ≤ n := by
  obtain ⟨a0, a1, b0, b1, u0, u1, n0, n1⟩ := h
  have p0 : 0 ≤ n / yn1 := Int.ediv_nonneg n0 (by omega)
  have p1 : n / yn1 * yn1 ≤ n := Int.ediv_mul_le n (by omega)
  have p2 : n < (n / yn1 + 1) * yn1 := Int.lt_ediv_add_one_mul_self n (by omega)
  have p3 : (n / yn1 + 1) * yn1 = n / yn1 * yn1 + yn1 := by rw [Int.add_mul, Int.one_mul]
  have p4 : 0 ≤ n / yn1 * yn1 := Int.mul_nonneg p0 (by omega)
  have p5 : 0 ≤ n / yn1 * yn0 := Int.mul_nonneg p0 b0
  refine ⟨⟨p0, ?_, by omega, by omega, by omega, ?_⟩, p4, p1⟩
  · rcases (by omega : n / yn1 ≤ 4294967297 ∨ 4294967298 ≤ n / yn1) with hle | hge
    · exact hle
    · exfalso
      have : 4294967298 * yn1 ≤ n / yn1 * yn1 := Int.mul_le_mul_of_nonneg_right hge (by omega)
      omega
  · generalize n / yn1 * yn1 = A at *
    generalize n / yn1 * yn0 = C at *
    omega
theorem rest_is {n u p : Int} (h0 : 0 ≤ n * 4294967296 + u - p) (h1 : n * 4294967296 + u - p < 18446744073709551616) :
    IntKind.u64.wrap (IntKind.u64.wrap (IntKind.u64.wrap (n * 4294967296) + u) - IntKind.u64.wrap p) = n * 4294967296 + u - p := by
  rw [u64w, u64w, u64w, u64w]
  omega
theorem times_y (q yn1 yn0 y : Int) (hy : y = yn1 * 4294967296 + yn0) : q * y = (q * yn1) * 4294967296 + q * yn0 := by
  rw [hy, Int.mul_add, ← Int.mul_assoc]
theorem l1_ok (y yn1 yn0 n u : Int) (s : Nat) (hy : y = yn1 * 4294967296 + yn0) (h : Halves yn1 yn0 n u) (q1 : Int) (hq1 : 0 ≤ q1) (hq2 : q1 < 4294967296) :
    ∀ (d : Nat) (q r : Int), Trial yn1 yn0 n u q r → 4294967296 ≤ r + d * 2147483648 →
      ∃ Q, Right yn1 yn0 n u Q ∧ Ev (fun k => bits_Div64.l1 k y (s : Int) yn1 yn0 u q1 r n q) (q1 * 4294967296 + Q, shr .u64 (n * 4294967296 + u - Q * y) (s : Int)) := by
  have fin : ∀ Q, Right yn1 yn0 n u Q → 0 ≤ n * 4294967296 + u - Q * y ∧ n * 4294967296 + u - Q * y < 18446744073709551616 ∧ Q < 4294967296 := by
    intro Q hQ
    have := digit_lt h hQ.2.1
    have e := times_y Q yn1 yn0 y hy
    obtain ⟨a0, a1, b0, b1, u0, u1, n0, n1⟩ := h
    obtain ⟨c0, c1, c2⟩ := hQ
    rw [e]
    generalize Q * yn1 = A at *
    generalize Q * yn0 = C at *
    omega
  intro d
  induction d with
  | zero =>
    intro q r t hd
    have := t.r1
    omega
  | succ d ih =>
    intro q r t hd
    have ht0 := t.q0
    have ht1 := t.q1
    have hr0 := t.r0
    have hr1 := t.r1
    have ha0 := h.a0
    have ha1 := h.a1
    have body : ∀ c : Bool, (c = true ↔ (4294967296 ≤ q ∨ 4294967296 * r + u < q * yn0)) →
        ∃ Q, Right yn1 yn0 n u Q ∧ Ev (fun k => bits_Div64.j4 k y (s : Int) yn1 yn0 u q1 r n q c) (q1 * 4294967296 + Q, shr .u64 (n * 4294967296 + u - Q * y) (s : Int)) := by
      intro c hc
      cases c with
      | true =>
        have ht := hc.1 rfl
        have hw : IntKind.u64.wrap (r + yn1) = r + yn1 := u64w_id _ (by omega) (by omega)
        have hd1 := (trial_down h t ht).1
        have hw2 : IntKind.u64.wrap (q - 1) = q - 1 := u64w_id _ (by omega) (by omega)
        by_cases hr : 4294967296 ≤ r + yn1
        · have hR := trial_last h t ht hr
          have hf := fin _ hR
          refine ⟨q - 1, hR, Ev_one fun k => ?_⟩
          simp only [bits_Div64.j4]
          rw [if_pos trivial, hw, if_pos (by omega), if_pos (by omega), hw2, rest_is hf.1 hf.2.1, u64w_id (q1 * 4294967296) (by omega) (by omega), u64w_id _ (by omega) (by omega)]
        · obtain ⟨Q, hQ, hE⟩ := ih (q - 1) (r + yn1) (trial_next h t ht (by omega)) (by omega)
          refine ⟨Q, hQ, Ev.step (fun k => ?_) hE⟩
          simp only [bits_Div64.j4]
          rw [if_pos trivial, hw, if_neg (by omega), hw2]
      | false =>
        have ht : ¬ (4294967296 ≤ q ∨ 4294967296 * r + u < q * yn0) := fun hh => Bool.noConfusion (hc.2 hh)
        have hR := trial_stop t (fun hh => ht (.inr hh))
        have hf := fin _ hR
        refine ⟨q, hR, Ev_one fun k => ?_⟩
        simp only [bits_Div64.j4]
        rw [if_neg (by decide), if_pos (by omega), rest_is hf.1 hf.2.1, u64w_id (q1 * 4294967296) (by omega) (by omega), u64w_id _ (by omega) (by omega)]
    by_cases hq : q ≥ 4294967296
    · obtain ⟨Q, hQ, hE⟩ := body true ⟨fun _ => .inl hq, fun _ => rfl⟩
      refine ⟨Q, hQ, Ev.step (fun k => ?_) hE⟩
      simp only [bits_Div64.l1]
      rw [if_pos hq]
    · obtain ⟨Q, hQ, hE⟩ := body (decide (4294967296 * r + u < q * yn0)) (by rw [decide_eq_true_iff]; omega)
      refine ⟨Q, hQ, Ev.step (fun k => ?_) hE⟩
      simp only [bits_Div64.l1]
      rw [if_neg hq, test_is h t hq]
theorem l0_ok (y yn1 yn0 n u v : Int) (s : Nat) (hy : y = yn1 * 4294967296 + yn0) (h : Halves yn1 yn0 n u) (hv0 : 0 ≤ v) (hv1 : v < 4294967296) :
    ∀ (d : Nat) (q r : Int), Trial yn1 yn0 n u q r → 4294967296 ≤ r + d * 2147483648 →
      ∃ Q1 Q0, 0 ≤ Q1 ∧ Q1 < 4294967296 ∧ 0 ≤ Q0 ∧ Q0 < 4294967296 ∧ 0 ≤ (n * 4294967296 + u - Q1 * y) * 4294967296 + v - Q0 * y ∧ (n * 4294967296 + u - Q1 * y) * 4294967296 + v - Q0 * y < y ∧
        Ev (fun k => bits_Div64.l0 k y (s : Int) yn1 yn0 n u v q r) (Q1 * 4294967296 + Q0, shr .u64 ((n * 4294967296 + u - Q1 * y) * 4294967296 + v - Q0 * y) (s : Int)) := by
  have fin : ∀ Q, Right yn1 yn0 n u Q → ∃ Q0, 0 ≤ Q ∧ Q < 4294967296 ∧ 0 ≤ Q0 ∧ Q0 < 4294967296 ∧ 0 ≤ (n * 4294967296 + u - Q * y) * 4294967296 + v - Q0 * y ∧ (n * 4294967296 + u - Q * y) * 4294967296 + v - Q0 * y < y ∧
        Ev (fun k => bits_Div64.j2 k y (s : Int) yn1 yn0 n u v Q) (Q * 4294967296 + Q0, shr .u64 ((n * 4294967296 + u - Q * y) * 4294967296 + v - Q0 * y) (s : Int)) := by
    intro Q hQ
    have hlt := digit_lt h hQ.2.1
    have e := times_y Q yn1 yn0 y hy
    obtain ⟨c0, c1, c2⟩ := hQ
    have ha0 := h.a0
    have ha1 := h.a1
    have hr0 : 0 ≤ n * 4294967296 + u - Q * y := by rw [e]; omega
    have hr1 : n * 4294967296 + u - Q * y < y := by
      rw [e, hy]
      generalize Q * yn1 = A at *
      generalize Q * yn0 = C at *
      omega
    have hw := rest_is (n := n) (u := u) (p := Q * y) hr0 (by have := h.b1; omega)
    generalize n * 4294967296 + u - Q * y = m at *
    have hH : Halves yn1 yn0 m v := ⟨h.a0, h.a1, h.b0, h.b1, hv0, hv1, hr0, by omega⟩
    obtain ⟨tr, tr0, tr1⟩ := trial_first hH
    obtain ⟨Q0, hQ0, hE⟩ := l1_ok y yn1 yn0 m v s hy hH Q c0 hlt 2 _ _ tr (by have := tr.r0; omega)
    have hlt0 := digit_lt hH hQ0.2.1
    have e0 := times_y Q0 yn1 yn0 y hy
    obtain ⟨g0, g1, g2⟩ := hQ0
    refine ⟨Q0, c0, hlt, g0, hlt0, by rw [e0]; omega, ?_, Ev.step (fun k => ?_) hE⟩
    · rw [e0, hy]
      generalize Q0 * yn1 = A at *
      generalize Q0 * yn0 = C at *
      omega
    · have hd : Int.tdiv m yn1 = m / yn1 := Int.tdiv_eq_ediv_of_nonneg hr0
      have hdr : 0 ≤ m / yn1 := tr.q0
      have hdr1 : m / yn1 ≤ 4294967297 := tr.q1
      simp only [bits_Div64.j2]
      rw [if_neg (by omega), hw, hd, u64w_id (m / yn1) hdr (by omega), u64w_id (m / yn1 * yn1) tr0 (by have := h.b1; omega), u64w_id (m - m / yn1 * yn1) (by omega) (by have := h.b1; omega)]
  intro d
  induction d with
  | zero =>
    intro q r t hd
    have := t.r1
    omega
  | succ d ih =>
    intro q r t hd
    have ht0 := t.q0
    have ht1 := t.q1
    have hr0 := t.r0
    have hr1 := t.r1
    have ha0 := h.a0
    have ha1 := h.a1
    have body : ∀ c : Bool, (c = true ↔ (4294967296 ≤ q ∨ 4294967296 * r + u < q * yn0)) →
        ∃ Q1 Q0, 0 ≤ Q1 ∧ Q1 < 4294967296 ∧ 0 ≤ Q0 ∧ Q0 < 4294967296 ∧ 0 ≤ (n * 4294967296 + u - Q1 * y) * 4294967296 + v - Q0 * y ∧ (n * 4294967296 + u - Q1 * y) * 4294967296 + v - Q0 * y < y ∧
        Ev (fun k => bits_Div64.j1 k y (s : Int) yn1 yn0 n u v q r c) (Q1 * 4294967296 + Q0, shr .u64 ((n * 4294967296 + u - Q1 * y) * 4294967296 + v - Q0 * y) (s : Int)) := by
      intro c hc
      cases c with
      | true =>
        have ht := hc.1 rfl
        have hw : IntKind.u64.wrap (r + yn1) = r + yn1 := u64w_id _ (by omega) (by omega)
        have hd1 := (trial_down h t ht).1
        have hw2 : IntKind.u64.wrap (q - 1) = q - 1 := u64w_id _ (by omega) (by omega)
        by_cases hr : 4294967296 ≤ r + yn1
        · obtain ⟨Q0, z0, z1, z2, z3, z4, z5, hE⟩ := fin _ (trial_last h t ht hr)
          refine ⟨q - 1, Q0, z0, z1, z2, z3, z4, z5, Ev.step (fun k => ?_) hE⟩
          simp only [bits_Div64.j1]
          rw [if_pos trivial, hw, if_pos (by omega), hw2]
        · obtain ⟨Q1, Q0, z0, z1, z2, z3, z4, z5, hE⟩ := ih (q - 1) (r + yn1) (trial_next h t ht (by omega)) (by omega)
          refine ⟨Q1, Q0, z0, z1, z2, z3, z4, z5, Ev.step (fun k => ?_) hE⟩
          simp only [bits_Div64.j1]
          rw [if_pos trivial, hw, if_neg (by omega), hw2]
      | false =>
        have ht : ¬ (4294967296 ≤ q ∨ 4294967296 * r + u < q * yn0) := fun hh => Bool.noConfusion (hc.2 hh)
        obtain ⟨Q0, z0, z1, z2, z3, z4, z5, hE⟩ := fin _ (trial_stop t (fun hh => ht (.inr hh)))
        refine ⟨q, Q0, z0, z1, z2, z3, z4, z5, Ev.step (fun k => ?_) hE⟩
        simp only [bits_Div64.j1]
        rw [if_neg (by decide)]
    by_cases hq : q ≥ 4294967296
    · obtain ⟨Q1, Q0, z0, z1, z2, z3, z4, z5, hE⟩ := body true ⟨fun _ => .inl hq, fun _ => rfl⟩
      refine ⟨Q1, Q0, z0, z1, z2, z3, z4, z5, Ev.step (fun k => ?_) hE⟩
      simp only [bits_Div64.l0]
      rw [if_pos hq]
    · obtain ⟨Q1, Q0, z0, z1, z2, z3, z4, z5, hE⟩ := body (decide (4294967296 * r + u < q * yn0)) (by rw [decide_eq_true_iff]; omega)
      refine ⟨Q1, Q0, z0, z1, z2, z3, z4, z5, Ev.step (fun k => ?_) hE⟩
      simp only [bits_Div64.l0]
      rw [if_neg hq, test_is h t hq]
theorem parts (hi lo y : Int) (s : Nat) (hs : s ≤ 63) (h0 : 0 ≤ hi) (h1 : hi < y) (l0 : 0 ≤ lo) (l1 : lo < 18446744073709551616) (y1 : y * 2 ^ s < 18446744073709551616) :
    ∃ n m : Int, Go.bits .or .u64 (shl .u64 hi (s : Int)) (shr .u64 lo (64 - (s : Int))) = n ∧ shl .u64 lo (s : Int) = m ∧ 0 ≤ n ∧ n < y * 2 ^ s ∧ 0 ≤ m ∧ m < 18446744073709551616 ∧ (hi * 18446744073709551616 + lo) * 2 ^ s = n * 18446744073709551616 + m := by
  have hp : (0 : Int) < 2 ^ s := Int.pow_pos (by decide)
  have hp2 : (0 : Int) < 2 ^ (64 - s) := Int.pow_pos (by decide)
  have hpp : (2 : Int) ^ (64 - s) * 2 ^ s = 18446744073709551616 := by rw [← Int.pow_add, show 64 - s + s = 64 by omega]; decide
  have e1 : shl .u64 hi (s : Int) = hi * 2 ^ s := by
    unfold shl
    rw [Int.toNat_natCast, Nat.min_eq_left (by show s ≤ 64; omega)]
    have a : 0 ≤ hi * 2 ^ s := Int.mul_nonneg h0 (Int.le_of_lt hp)
    have b : hi * 2 ^ s ≤ y * 2 ^ s := Int.mul_le_mul_of_nonneg_right (by omega) (Int.le_of_lt hp)
    exact u64w_id _ a (by omega)
  have e2 : shr .u64 lo (64 - (s : Int)) = lo / 2 ^ (64 - s) := by
    unfold shr
    rw [show (64 - (s : Int)).toNat = 64 - s by omega, Nat.min_eq_left (by show 64 - s ≤ 64; omega)]
  have e3 : shl .u64 lo (s : Int) = (lo * 2 ^ s) % 18446744073709551616 := by
    unfold shl
    rw [Int.toNat_natCast, Nat.min_eq_left (by show s ≤ 64; omega), u64w]
  have d0 : 0 ≤ lo / 2 ^ (64 - s) := Int.ediv_nonneg l0 (Int.le_of_lt hp2)
  have d1 : lo / 2 ^ (64 - s) < 2 ^ s := by
    refine Int.ediv_lt_of_lt_mul hp2 ?_
    rw [Int.mul_comm, hpp]
    exact l1
  have hx : 0 ≤ hi * 2 ^ s := Int.mul_nonneg h0 (Int.le_of_lt hp)
  have hx1 : hi * 2 ^ s + 2 ^ s ≤ y * 2 ^ s := by
    have : (hi + 1) * 2 ^ s ≤ y * 2 ^ s := Int.mul_le_mul_of_nonneg_right (by omega) (Int.le_of_lt hp)
    rw [Int.add_mul, Int.one_mul] at this
    exact this
  have e4 : Go.bits .or .u64 (hi * 2 ^ s) (lo / 2 ^ (64 - s)) = hi * 2 ^ s + lo / 2 ^ (64 - s) :=
    bits_join .u64 64 (by decide) wraps_u64 s _ _ hx (Int.mul_emod_left _ _) (by simpa using (by omega : hi * 2 ^ s < 18446744073709551616)) d0 d1 (by simpa using (by omega : lo / 2 ^ (64 - s) < 18446744073709551616))
  have e5 : lo * 2 ^ s = (lo / 2 ^ (64 - s)) * 18446744073709551616 + (lo * 2 ^ s) % 18446744073709551616 := by
    have a : lo = 2 ^ (64 - s) * (lo / 2 ^ (64 - s)) + lo % 2 ^ (64 - s) := (Int.mul_ediv_add_emod lo (2 ^ (64 - s))).symm
    have b : lo % 2 ^ (64 - s) < 2 ^ (64 - s) := Int.emod_lt_of_pos _ hp2
    have c : 0 ≤ lo % 2 ^ (64 - s) := Int.emod_nonneg _ (Int.ne_of_gt hp2)
    generalize lo / 2 ^ (64 - s) = t at *
    generalize lo % 2 ^ (64 - s) = g at *
    have e : lo * 2 ^ s = t * 18446744073709551616 + g * 2 ^ s := by rw [a, Int.add_mul, Int.mul_comm (2 ^ (64 - s)) t, Int.mul_assoc, hpp]
    have f0 : 0 ≤ g * 2 ^ s := Int.mul_nonneg c (Int.le_of_lt hp)
    have f1 : g * 2 ^ s < 18446744073709551616 := by rw [← hpp]; exact Int.mul_lt_mul_of_pos_right b hp
    generalize g * 2 ^ s = x at *
    generalize lo * 2 ^ s = z at *
    omega
  refine ⟨hi * 2 ^ s + lo / 2 ^ (64 - s), (lo * 2 ^ s) % 18446744073709551616, by rw [e1, e2, e4], e3, by omega, by omega, by omega, by omega, ?_⟩
  rw [Int.add_mul, Int.mul_right_comm]
  generalize hi * 2 ^ s = a at *
  generalize lo / 2 ^ (64 - s) = b at *
  generalize lo * 2 ^ s = c at *
  omega
theorem div64 (hi lo y : Int) (h0 : 0 ≤ hi) (h1 : hi < y) (l0 : 0 ≤ lo) (l1 : lo < 18446744073709551616) (y1 : y < 18446744073709551616) :
    Ev (fun k => bits_Div64.f k hi lo y) ((hi * 18446744073709551616 + lo) / y, (hi * 18446744073709551616 + lo) % y) := by
  unfold bits_Div64.f
  by_cases hz : hi = 0
  · refine Ev_all_k fun k => ?_
    rw [if_neg (by omega), if_neg (by omega), if_pos hz, hz, Int.zero_mul, Int.zero_add, Int.tdiv_eq_ediv_of_nonneg l0, Int.tmod_eq_emod_of_nonneg l0]
    have a : 0 ≤ lo / y := Int.ediv_nonneg l0 (by omega)
    have b : lo / y ≤ lo := Int.ediv_le_self _ l0
    rw [u64w_id _ a (by omega)]
  · obtain ⟨s, hs, ya, yb, hE⟩ := zeros64 y (by omega) y1
    obtain ⟨n, m, en, em, n0, n1, m0, m1, eU⟩ := parts hi lo y s hs h0 h1 l0 l1 yb
    have hp : (0 : Int) < 2 ^ s := Int.pow_pos (by decide)
    have ey : shl .u64 y (s : Int) = y * 2 ^ s := by
      unfold shl
      rw [Int.toNat_natCast, Nat.min_eq_left (by show s ≤ 64; omega)]
      exact u64w_id _ (by omega) yb
    have ws : IntKind.u64.wrap (s : Int) = s := u64w_id _ (by omega) (by omega)
    have ws2 : IntKind.u64.wrap (64 - (s : Int)) = 64 - s := u64w_id _ (by omega) (by omega)
    generalize hY : y * 2 ^ s = Y at *
    have hy : Y = Y / 4294967296 * 4294967296 + Y % 4294967296 := by omega
    have hH : Halves (Y / 4294967296) (Y % 4294967296) n (m / 4294967296) := ⟨by omega, by omega, by omega, by omega, by omega, by omega, n0, by omega⟩
    obtain ⟨tr, tr0, tr1⟩ := trial_first hH
    obtain ⟨Q1, Q0, a0, a1, b0, b1, r0, r1, hL⟩ := l0_ok Y _ _ n (m / 4294967296) (m % 4294967296) s hy hH (by omega) (by omega) 2 _ _ tr (by have := tr.r0; omega)
    have hd : Int.tdiv n (Y / 4294967296) = n / (Y / 4294967296) := Int.tdiv_eq_ediv_of_nonneg n0
    have hdr : 0 ≤ n / (Y / 4294967296) := tr.q0
    have hdr1 : n / (Y / 4294967296) ≤ 4294967297 := tr.q1
    have key : ∀ k, bits_Div64.f (k + 1) hi lo y = bits_Div64.l0 (k + 1) Y (s : Int) (Y / 4294967296) (Y % 4294967296) n (m / 4294967296) (m % 4294967296) (n / (Y / 4294967296)) (n - n / (Y / 4294967296) * (Y / 4294967296)) := by
      intro k
      unfold bits_Div64.f
      rw [if_neg (by omega), if_neg (by omega), if_neg hz, hE, Option.bind_some, ws, ws2, if_pos (by omega), if_pos (by omega), ey, if_neg (by omega), en, em, and32 Y (by omega) yb, and32 m m0 m1, hd, u64w_id (n / (Y / 4294967296)) hdr (by omega),
        u64w_id (n / (Y / 4294967296) * (Y / 4294967296)) tr0 (by omega), u64w_id (n - n / (Y / 4294967296) * (Y / 4294967296)) (by omega) (by omega)]
    have fin : (hi * 18446744073709551616 + lo) / y = Q1 * 4294967296 + Q0 ∧ (hi * 18446744073709551616 + lo) % y = shr .u64 ((n * 4294967296 + m / 4294967296 - Q1 * Y) * 4294967296 + m % 4294967296 - Q0 * Y) (s : Int) := by
      have e : (hi * 18446744073709551616 + lo) * 2 ^ s = (Q1 * 4294967296 + Q0) * Y + ((n * 4294967296 + m / 4294967296 - Q1 * Y) * 4294967296 + m % 4294967296 - Q0 * Y) := by
        rw [eU, Int.add_mul, Int.mul_right_comm]
        generalize Q1 * Y = a at *
        generalize Q0 * Y = b at *
        omega
      generalize (n * 4294967296 + m / 4294967296 - Q1 * Y) * 4294967296 + m % 4294967296 - Q0 * Y = R at *
      generalize Q1 * 4294967296 + Q0 = Q at *
      generalize hi * 18446744073709551616 + lo = N at *
      have e2 : R = (N - Q * y) * 2 ^ s := by
        rw [Int.sub_mul, e, ← hY, Int.mul_assoc]
        omega
      have e3 : shr .u64 R (s : Int) = N - Q * y := by
        unfold shr
        rw [Int.toNat_natCast, Nat.min_eq_left (by show s ≤ 64; omega), e2, Int.mul_ediv_cancel _ (Int.ne_of_gt hp)]
      have f0 : 0 ≤ N - Q * y := by
        rcases (by omega : 0 ≤ N - Q * y ∨ N - Q * y < 0) with g | g
        · exact g
        · have := Int.mul_neg_of_neg_of_pos g hp
          omega
      have f1 : N - Q * y < y := by
        rcases (by omega : N - Q * y < y ∨ y ≤ N - Q * y) with g | g
        · exact g
        · have := Int.mul_le_mul_of_nonneg_right g (Int.le_of_lt hp)
          omega
      rw [e3]
      have hN : N = (N - Q * y) + y * Q := by rw [Int.mul_comm y Q]; omega
      generalize N - Q * y = z at *
      subst hN
      rw [Int.add_mul_ediv_left _ _ (by omega), Int.ediv_eq_zero_of_lt f0 f1, Int.zero_add, Int.add_mul_emod_self_left, Int.emod_eq_of_lt f0 f1]
      exact ⟨rfl, rfl⟩
    rw [fin.1, fin.2]
    obtain ⟨K, hK⟩ := hL
    refine ⟨K + 1, fun k hk => ?_⟩
    obtain ⟨j, rfl⟩ : ∃ j, k = j + 1 := ⟨k - 1, by omega⟩
    have := key j
    unfold bits_Div64.f at this
    exact this.trans (hK (j + 1) (by omega))
def mdOk (a b c : Int) : Prop := (0 ≤ a ∧ a ≤ 1000000000000000) ∧ (0 ≤ b ∧ b ≤ 1000000000000000) ∧ (1 ≤ c ∧ c ≤ 1000000000000000) ∧ a * b / c ≤ 1000000000000000
instance (a b c : Int) : Decidable (mdOk a b c) := by unfold mdOk; exact inferInstance
def mdR (a b c : Int) : Int × Int × Bool := if mdOk a b c then (a * b / c, a * b % c, true) else (0, 0, false)
theorem md_no {a b c : Int} (h : ¬ mdOk a b c) : mdR a b c = (0, 0, false) := if_neg h
theorem md_yes {a b c : Int} (h : mdOk a b c) : mdR a b c = (a * b / c, a * b % c, true) := if_pos h
theorem gates {ρ : Type} {A B C : Prop} [Decidable A] [Decidable B] [Decidable C] (f : Nat → Bool → Option ρ) (r : ρ) (hb : ¬ (A ∧ B ∧ C) → Ev (fun k => f k true) r) (hg : A → B → C → Ev (fun k => f k false) r) :
    Ev (fun k => if decide A = true then (if decide B = true then f k (!decide C) else f k true) else f k true) r := by
  by_cases ha : A
  · by_cases hb2 : B
    · by_cases hc : C
      · exact Ev.congr (fun k => by rw [if_pos (decide_eq_true ha), if_pos (decide_eq_true hb2), decide_eq_true hc]; rfl) (hg ha hb2 hc)
      · exact Ev.congr (fun k => by rw [if_pos (decide_eq_true ha), if_pos (decide_eq_true hb2), decide_eq_false hc]; rfl) (hb fun h => hc h.2.2)
    · exact Ev.congr (fun k => by rw [if_pos (decide_eq_true ha), if_neg (by rw [decide_eq_false hb2]; decide)]) (hb fun h => hb2 h.2.1)
  · exact Ev.congr (fun k => by rw [if_neg (by rw [decide_eq_false ha]; decide)]) (hb fun h => ha h.1)
theorem mulDiv_i (a b c : Int) : Ev (fun k => impl_MulDiv.f k a b c) (mdR a b c) := by
  unfold impl_MulDiv.f
  simp only [in_i, Option.bind_some]
  have bad : ∀ h : ¬ mdOk a b c, Ev (fun k => impl_MulDiv.j0 k a b c true) (mdR a b c) := fun h => by
    rw [md_no h]
    exact Ev_one fun k => by simp only [impl_MulDiv.j0]; rw [if_pos trivial]
  refine gates (fun k z => impl_MulDiv.j0 k a b c z) _ (fun h => bad fun g => h ⟨g.1, g.2.1, g.2.2.1⟩) fun ha hb hc => ?_
  · · ·
        obtain ⟨a0, a1⟩ := ha
        obtain ⟨b0, b1⟩ := hb
        obtain ⟨c0, c1⟩ := hc
        have hp0 : 0 ≤ a * b := Int.mul_nonneg a0 b0
        have hp1 : a * b ≤ 1000000000000000 * 1000000000000000 := Int.mul_le_mul a1 b1 b0 (by decide)
        have hm : bits_Mul64.f a b = some (a * b / 18446744073709551616, a * b % 18446744073709551616) := by
          unfold bits_Mul64.f
          rw [mul64 a b a0 (by omega) b0 (by omega), u64w]
        have e : ∀ k, impl_MulDiv.j0 (k + 1) a b c false = if a * b / 18446744073709551616 ≥ c then some (0, 0, false) else (bits_Div64.f k (a * b / 18446744073709551616) (a * b % 18446744073709551616) c).bind fun z => (if z.1 > 1000000000000000 then (some (0, 0, false)) else (some (wrap64 z.1, wrap64 z.2, true))) := by
          intro k
          simp only [impl_MulDiv.j0]
          rw [if_neg (by decide), u64w_id a a0 (by omega), u64w_id b b0 (by omega), u64w_id c (by omega) (by omega), hm, Option.bind_some]
        have hq0 : 0 ≤ a * b / c := Int.ediv_nonneg hp0 (by omega)
        have hr0 : 0 ≤ a * b % c := Int.emod_nonneg _ (by omega)
        have hr1 : a * b % c < c := Int.emod_lt_of_pos _ (by omega)
        refine Ev.step e ?_
        by_cases hh : a * b / 18446744073709551616 ≥ c
        · have hno : ¬ mdOk a b c := fun h => by
            have h4 := h.2.2.2
            have h5 : 18446744073709551616 ≤ a * b / c := by
              rw [Int.le_ediv_iff_mul_le (by omega)]
              omega
            omega
          rw [md_no hno]
          exact Ev_all_k fun k => if_pos hh
        · refine Ev.congr (fun k => if_neg hh) ?_
          have hd := div64 (a * b / 18446744073709551616) (a * b % 18446744073709551616) c (by omega) (by omega) (by omega) (by omega) (by omega)
          rw [show a * b / 18446744073709551616 * 18446744073709551616 + a * b % 18446744073709551616 = a * b by omega] at hd
          refine Ev_bind hd (Ev_all_k fun k => ?_)
          by_cases hq : a * b / c ≤ 1000000000000000
          · rw [md_yes ⟨⟨a0, a1⟩, ⟨b0, b1⟩, ⟨c0, c1⟩, hq⟩, if_neg (by show ¬ a * b / c > _; omega)]
            show some (wrap64 (a * b / c), wrap64 (a * b % c), true) = _
            rw [w64_id _ (by omega) (by omega), w64_id _ (by omega) (by omega)]
          · rw [md_no (fun h => hq h.2.2.2), if_pos (by show a * b / c > _; omega)]
theorem some_s (x lo : Int) : spec_l1Some.f x lo = some (decide (lo ≤ x ∧ x ≤ 1000000000000000)) := by
  unfold spec_l1Some.f
  rw [in_s]
  rfl
theorem bit_is (a : Int) (i : Nat) (h0 : 0 ≤ a) (h1 : a ≤ 1000000000000000) (hi : i ≤ 63) : Go.bits .and .i64 (shr .i64 a (i : Int)) 1 = a / 2 ^ i % 2 := by
  have e : shr .i64 a (i : Int) = a / 2 ^ i := by
    unfold shr
    rw [Int.toNat_natCast, Nat.min_eq_left (by show i ≤ 64; omega)]
  rw [e]
  have hp : (0 : Int) < 2 ^ i := Int.pow_pos (by decide)
  have d0 : 0 ≤ a / 2 ^ i := Int.ediv_nonneg h0 (Int.le_of_lt hp)
  have d1 : a / 2 ^ i ≤ a := Int.ediv_le_self _ h0
  exact bits_mask .i64 63 (by decide) (fun n a b => by rw [IntKind.wrap_i64]; have : (2 : Int) ^ 63 = 9223372036854775808 := by decide
                                                       omega) 1 (by decide) _ d0 (by have : (2 : Int) ^ 63 = 9223372036854775808 := by decide
                                                                                     omega)
theorem sl0 (a b c : Int) (a0 : 0 ≤ a) (a1 : a ≤ 1000000000000000) (b0 : 0 ≤ b) (b1 : b ≤ 1000000000000000) (c0 : 1 ≤ c) (c1 : c ≤ 1000000000000000) :
    ∀ (m : Nat) (q r : Int), m ≤ 51 → 0 ≤ r → r < c → 0 ≤ q → q ≤ 1000000000000000 → q * c + r = a / 2 ^ m * b →
      Ev (fun k => spec_MulDiv.l0 k a b c q r ((m : Int) - 1)) (if a * b / c ≤ 1000000000000000 then (a * b / c, a * b % c, true) else (0, 0, false)) := by
  intro m
  induction m with
  | zero =>
    intro q r _ r0 r1 q0 q1 e
    rw [show a / 2 ^ 0 = a by rw [Int.pow_zero, Int.ediv_one]] at e
    have hN : a * b = r + c * q := by rw [← e, Int.mul_comm c q]; omega
    have hd : a * b / c = q := by rw [hN, Int.add_mul_ediv_left _ _ (by omega), Int.ediv_eq_zero_of_lt r0 r1, Int.zero_add]
    have hm : a * b % c = r := by rw [hN, Int.add_mul_emod_self_left, Int.emod_eq_of_lt r0 r1]
    rw [hd, hm, if_pos q1]
    exact Ev_one fun k => by simp only [spec_MulDiv.l0]; rw [if_neg (by omega)]
  | succ m ih =>
    intro q r hm r0 r1 q0 q1 e
    have hp : (0 : Int) < 2 ^ m := Int.pow_pos (by decide)
    have hA : a / 2 ^ (m + 1) = a / 2 ^ m / 2 := by rw [Int.pow_succ, Int.ediv_ediv_of_nonneg (Int.le_of_lt hp)]
    have d0 : 0 ≤ a / 2 ^ m := Int.ediv_nonneg a0 (Int.le_of_lt hp)
    have d1 : a / 2 ^ m ≤ a := Int.ediv_le_self _ a0
    rw [hA] at e
    have hbit := bit_is a m a0 a1 (by omega)
    -- too great a quotient stays too great
    have big : ∀ q' r' : Int, q' * c + r' = a / 2 ^ m * b → 0 ≤ r' → 1000000000000000 < q' → ¬ a * b / c ≤ 1000000000000000 := by
      intro q' r' e' r0' hq' hle
      have h1 : a / 2 ^ m * b ≤ a * b := Int.mul_le_mul_of_nonneg_right d1 b0
      have h2 : q' ≤ a * b / c := by
        rw [Int.le_ediv_iff_mul_le (by omega)]
        omega
      omega
    -- the doubled pair
    obtain ⟨q2, r2, hw, z0, z1, y0, y1, e2⟩ : ∃ q2 r2 : Int, (∀ k, spec_MulDiv.l0 (k + 1) a b c q r ((m + 1 : Nat) - 1 : Int) = spec_MulDiv.j2 k a b c q2 r2 (m : Int)) ∧ 0 ≤ r2 ∧ r2 < c ∧ 0 ≤ q2 ∧ q2 ≤ 2000000000000001 ∧ q2 * c + r2 = 2 * (a / 2 ^ m / 2 * b) := by
      have w1 : wrap64 (2 * r) = 2 * r := w64_id _ (by omega) (by omega)
      have w2 : wrap64 (2 * q) = 2 * q := w64_id _ (by omega) (by omega)
      have hi : (((m + 1 : Nat) : Int) - 1) = (m : Int) := by omega
      by_cases h : 2 * r ≥ c
      · refine ⟨2 * q + 1, 2 * r - c, fun k => ?_, by omega, by omega, by omega, by omega, ?_⟩
        · rw [hi]
          simp only [spec_MulDiv.l0]
          rw [if_pos (by omega), w1, if_pos h, w2, w64_id (2 * q + 1) (by omega) (by omega), w64_id (2 * r - c) (by omega) (by omega)]
        · rw [Int.add_mul, Int.one_mul, Int.mul_assoc, ← e]
          omega
      · refine ⟨2 * q, 2 * r, fun k => ?_, by omega, by omega, by omega, by omega, ?_⟩
        · rw [hi]
          simp only [spec_MulDiv.l0]
          rw [if_pos (by omega), w1, if_neg h, w2]
        · rw [Int.mul_assoc, ← e]
          omega
    refine Ev.step hw ?_
    have hodd : a / 2 ^ m * b = 2 * (a / 2 ^ m / 2 * b) + a / 2 ^ m % 2 * b := by
      have : a / 2 ^ m = 2 * (a / 2 ^ m / 2) + a / 2 ^ m % 2 := by omega
      generalize a / 2 ^ m = x at *
      conv => lhs; rw [this, Int.add_mul, Int.mul_assoc]
    have go : ∀ q3 r3 : Int, 0 ≤ r3 → r3 < c → 0 ≤ q3 → q3 * c + r3 = a / 2 ^ m * b → (f : Nat → Option (Int × Int × Bool)) → (∀ k, f k = if q3 > 1000000000000000 then some (0, 0, false) else spec_MulDiv.l0 k a b c q3 r3 ((m : Int) - 1)) → Ev f (if a * b / c ≤ 1000000000000000 then (a * b / c, a * b % c, true) else (0, 0, false)) := by
      intro q3 r3 x0 x1 x2 e3 f hf
      by_cases hq : q3 > 1000000000000000
      · rw [if_neg (big q3 r3 e3 x0 (by omega))]
        exact Ev_all_k fun k => by rw [hf, if_pos hq]
      · exact Ev.congr (fun k => by rw [hf, if_neg hq]) (ih q3 r3 (by omega) x0 x1 x2 (by omega) e3)
    have wm : wrap64 ((m : Int) - 1) = (m : Int) - 1 := w64_id _ (by omega) (by omega)
    by_cases hb : a / 2 ^ m % 2 = 1
    · have t0 : 0 ≤ b / c := Int.ediv_nonneg b0 (by omega)
      have t1 : b / c ≤ b := Int.ediv_le_self _ b0
      have t2 : 0 ≤ b % c := Int.emod_nonneg _ (by omega)
      have t3 : b % c < c := Int.emod_lt_of_pos _ (by omega)
      have t4 : b / c * c + b % c = b := by have := Int.mul_ediv_add_emod b c; rw [Int.mul_comm]; exact this
      have td : Int.tdiv b c = b / c := Int.tdiv_eq_ediv_of_nonneg b0
      have tm : Int.tmod b c = b % c := Int.tmod_eq_emod_of_nonneg b0
      rw [hb, Int.one_mul] at hodd
      have w1 : wrap64 (r2 + b % c) = r2 + b % c := w64_id _ (by omega) (by omega)
      have w2 : wrap64 (b / c) = b / c := w64_id _ (by omega) (by omega)
      have w3 : wrap64 (q2 + b / c) = q2 + b / c := w64_id _ (by omega) (by omega)
      have w4 : wrap64 (q2 + b / c + 1) = q2 + b / c + 1 := w64_id _ (by omega) (by omega)
      by_cases h : r2 + b % c ≥ c
      · have w5 : wrap64 (r2 + b % c - c) = r2 + b % c - c := w64_id _ (by omega) (by omega)
        refine Ev.step (fun k => rfl) (go (q2 + b / c + 1) (r2 + b % c - c) (by omega) (by omega) (by omega) ?_ _ fun k => ?_)
        · rw [Int.add_mul, Int.add_mul, Int.one_mul, hodd, ← e2]
          omega
        · simp only [spec_MulDiv.j2]
          rw [if_pos (by omega), hbit, if_pos hb, if_neg (by omega), tm, td, w1, if_pos h, w2, w3, w4, w5, wm]
      · refine Ev.step (fun k => rfl) (go (q2 + b / c) (r2 + b % c) (by omega) (by omega) (by omega) ?_ _ fun k => ?_)
        · rw [Int.add_mul, hodd, ← e2]
          omega
        · simp only [spec_MulDiv.j2]
          rw [if_pos (by omega), hbit, if_pos hb, if_neg (by omega), tm, td, w1, if_neg h, w2, w3, wm]
    · have hb0 : a / 2 ^ m % 2 = 0 := by omega
      rw [hb0, Int.zero_mul, Int.add_zero] at hodd
      refine Ev.step (fun k => rfl) (go q2 r2 z0 z1 y0 (by rw [e2, hodd]) _ fun k => ?_)
      simp only [spec_MulDiv.j2]
      rw [if_pos (by omega), hbit, if_neg hb, wm]
theorem mulDiv_s (a b c : Int) : Ev (fun k => spec_MulDiv.f k a b c) (mdR a b c) := by
  unfold spec_MulDiv.f
  simp only [some_s, Option.bind_some]
  have bad : ∀ h : ¬ mdOk a b c, Ev (fun k => spec_MulDiv.j0 k a b c true) (mdR a b c) := fun h => by
    rw [md_no h]
    exact Ev_one fun k => by simp only [spec_MulDiv.j0]; rw [if_pos trivial]
  refine gates (fun k z => spec_MulDiv.j0 k a b c z) _ (fun h => bad fun g => h ⟨g.1, g.2.1, g.2.2.1⟩) fun ha hb hc => ?_
  · · ·
        refine Ev.step (f := fun k => spec_MulDiv.l0 k a b c 0 0 50) (fun k => by simp only [spec_MulDiv.j0]; rw [if_neg (by decide)]) ?_
        have h := sl0 a b c ha.1 ha.2 hb.1 hb.2 hc.1 hc.2 51 0 0 (Nat.le_refl _) (by omega) (by omega) (by omega) (by omega) (by
          rw [show a / 2 ^ 51 = 0 from Int.ediv_eq_zero_of_lt ha.1 (by have : (2 : Int) ^ 51 = 2251799813685248 := by decide
                                                                       omega)]
          simp)
        have e : mdR a b c = if a * b / c ≤ 1000000000000000 then (a * b / c, a * b % c, true) else (0, 0, false) := by
          by_cases hq : a * b / c ≤ 1000000000000000
          · rw [md_yes ⟨ha, hb, hc, hq⟩, if_pos hq]
          · rw [md_no (fun h => hq h.2.2.2), if_neg hq]
        rw [e]
        exact h
end Go.Proofs.Ytomanpmffjkkgaa.A2
namespace Go.Proofs.Ytomanpmffjkkgaa.E6
open Go Go.RowKit Go.Proofs.Ytomanpmffjkkgaa.P Go.Proofs.YtomanpmffjkkgaaW.PrintWords Go.Proofs.YtomanpmffjkkgaaW.PrintLast Go.Proofs.Ytomanpmffjkkgaa.EV Go.Proofs.Ytomanpmffjkkgaa.I1 Go.Proofs.Ytomanpmffjkkgaa.N1 Go.Proofs.Ytomanpmffjkkgaa.E1 Go.Proofs.Ytomanpmffjkkgaa.E2 Go.Proofs.Ytomanpmffjkkgaa.E3 Go.Proofs.Ytomanpmffjkkgaa.E4 Go.Proofs.Ytomanpmffjkkgaa.E5
def paid (x : SL) (p : Int) : Int := (A2.mdR x.f4 p x.f3).1
theorem paid_ok {x : SL} (h : E1.Form x) {p : Int} (h0 : 0 ≤ p) (h1 : p ≤ x.f3) : paid x p = x.f4 * p / x.f3 ∧ 0 ≤ paid x p ∧ paid x p ≤ x.f4 := by
  unfold E1.Form at h
  have e1 : 0 ≤ x.f4 * p / x.f3 := Int.ediv_nonneg (Int.mul_nonneg (by omega) h0) (by omega)
  have e2 : x.f4 * p / x.f3 ≤ x.f4 := Int.ediv_le_of_le_mul (by omega) (Int.mul_le_mul_of_nonneg_left h1 (by omega))
  have e : paid x p = x.f4 * p / x.f3 := by
    unfold paid
    rw [A2.md_yes ⟨⟨by omega, by omega⟩, ⟨by omega, by omega⟩, ⟨by omega, by omega⟩, by omega⟩]
  rw [e]
  exact ⟨rfl, e1, e2⟩
theorem paid_all {x : SL} (h : E1.Form x) : paid x x.f3 = x.f4 := by
  have h2 := h
  unfold E1.Form at h2
  rw [(paid_ok h (by omega) (Int.le_refl _)).1]
  exact Int.mul_ediv_cancel _ (by omega)
theorem paid_none {x : SL} (h : E1.Form x) : paid x 0 = 0 := by
  have h2 := h
  unfold E1.Form at h2
  rw [(paid_ok h (Int.le_refl _) (by omega)).1]
  simp
def cut (x : SL) (p : Int) : SL := ⟨x.f0, x.f1, x.f2, x.f3 - p, x.f4 - paid x p⟩
theorem cut_none {x : SL} (h : E1.Form x) : cut x 0 = x := by
  unfold cut
  rw [paid_none h, Int.sub_zero, Int.sub_zero]
theorem cut_form {x : SL} (h : E1.Form x) {p : Int} (h0 : 0 ≤ p) (h1 : p < x.f3) : E1.Form (cut x p) := by
  have h2 := paid_ok h h0 (by omega)
  unfold E1.Form No at *
  simp only [cut]
  omega
def left : List SL → Int → List SL
  | [], _ => []
  | x :: xs, q => if x.f3 ≤ q then left xs (q - x.f3) else cut x q :: xs
def cost : List SL → Int → Int
  | [], _ => 0
  | x :: xs, q => if x.f3 ≤ q then x.f4 + cost xs (q - x.f3) else paid x q
def tot : List SL → Int
  | [] => 0
  | x :: xs => x.f3 + tot xs
def all4 : List SL → Int
  | [] => 0
  | x :: xs => x.f4 + all4 xs
theorem left_none : ∀ {l : List SL}, (∀ x ∈ l, E1.Form x) → left l 0 = l ∧ cost l 0 = 0
  | [], _ => ⟨rfl, rfl⟩
  | x :: xs, h => by
    have hx := h x (List.mem_cons_self ..)
    have h2 := hx
    unfold E1.Form at h2
    simp only [left, cost]
    rw [if_neg (by omega), if_neg (by omega), cut_none hx, paid_none hx]
    exact ⟨rfl, rfl⟩
theorem left_form : ∀ {l : List SL} {q : Int}, (∀ x ∈ l, E1.Form x) → 0 ≤ q → ∀ x ∈ left l q, E1.Form x
  | [], q, _, _, x, hx => by cases hx
  | y :: ys, q, h, h0, x, hx => by
    simp only [left] at hx
    split at hx
    · exact left_form (fun z hz => h z (List.mem_cons_of_mem _ hz)) (by omega) x hx
    · rename_i hq
      rcases List.mem_cons.1 hx with rfl | hx
      · exact cut_form (h y (List.mem_cons_self ..)) h0 (by omega)
      · exact h x (List.mem_cons_of_mem _ hx)
theorem left_sums : ∀ {l : List SL} {q : Int}, (∀ x ∈ l, E1.Form x) → 0 ≤ q → q ≤ tot l → tot (left l q) = tot l - q ∧ all4 (left l q) = all4 l - cost l q ∧ 0 ≤ cost l q ∧ cost l q ≤ all4 l
  | [], q, _, h0, h1 => by
    simp only [tot] at h1
    simp only [left, cost, tot, all4]
    omega
  | x :: xs, q, h, h0, h1 => by
    have hx := h x (List.mem_cons_self ..)
    have hxs : ∀ y ∈ xs, E1.Form y := fun y hy => h y (List.mem_cons_of_mem _ hy)
    simp only [tot] at h1
    simp only [left, cost, tot, all4]
    by_cases hq : x.f3 ≤ q
    · have ih := left_sums (l := xs) (q := q - x.f3) hxs (by omega) (by omega)
      have hx2 := hx
      unfold E1.Form at hx2
      rw [if_pos hq, if_pos hq]
      omega
    · have h2 := paid_ok hx h0 (by omega)
      have h3 : ∀ {m : List SL}, (∀ y ∈ m, E1.Form y) → 0 ≤ all4 m := by
        intro m
        induction m with
        | nil => intro _; exact Int.le_refl _
        | cons z zs ih =>
          intro hm
          have h4 := hm z (List.mem_cons_self ..)
          have h5 := ih fun y hy => hm y (List.mem_cons_of_mem _ hy)
          unfold E1.Form at h4
          simp only [all4]
          omega
      have h4 := h3 hxs
      rw [if_neg hq, if_neg hq]
      simp only [tot, all4, cut]
      omega
theorem left_len : ∀ (l : List SL) (q : Int), (left l q).length ≤ l.length
  | [], _ => Nat.le_refl _
  | x :: xs, q => by
    have ih := left_len xs (q - x.f3)
    simp only [left]
    split
    · simp only [List.length_cons]
      omega
    · exact Nat.le_refl _
theorem left_own {a b : Int} : ∀ {l : List SL} {q : Int}, (∀ x ∈ l, x.f0 = a ∧ x.f1 = b) → ∀ x ∈ left l q, x.f0 = a ∧ x.f1 = b
  | [], q, _, x, hx => by cases hx
  | y :: ys, q, h, x, hx => by
    simp only [left] at hx
    split at hx
    · exact left_own (fun z hz => h z (List.mem_cons_of_mem _ hz)) x hx
    · rcases List.mem_cons.1 hx with rfl | hx
      · exact h y (List.mem_cons_self ..)
      · exact h x (List.mem_cons_of_mem _ hx)
theorem left_pw {R : SL → SL → Prop} (hR : ∀ x p z, R x z → R (cut x p) z) : ∀ {l : List SL} {q : Int}, l.Pairwise R → (left l q).Pairwise R
  | [], _, _ => List.Pairwise.nil
  | x :: xs, q, h => by
    have h2 := List.pairwise_cons.1 h
    simp only [left]
    split
    · exact left_pw hR h2.2
    · exact List.pairwise_cons.2 ⟨fun z hz => hR _ _ _ (h2.1 z hz), h2.2⟩
theorem take_i (l : List SL) (hl : l.length ≤ 120) (hf : ∀ x ∈ l, E1.Form x) (q : Int) (q0 : 0 ≤ q) (q1 : q ≤ 1000000000000000) : Ev (fun k => impl_takeLots.f k l q) (left l q, cost l q) := by
  unfold impl_takeLots.f
  have key : ∀ (n i : Nat) (q c : Int) (out : List SL), l.length - i = n → i ≤ l.length → 0 ≤ q → q ≤ 1000000000000000 → 0 ≤ c → c ≤ i * 1000000000000000 → out.length ≤ i →
      Ev (fun k => impl_takeLots.l0 k q c out l (l.length : Int) (i : Int)) (out ++ left (l.drop i) q, c + cost (l.drop i) q) := by
    intro n
    induction n with
    | zero =>
      intro i q c out hn hi _ _ _ _ _
      have e : l.drop i = [] := List.drop_eq_nil_of_le (by omega)
      rw [e]
      simp only [left, cost, List.append_nil, Int.add_zero]
      exact Ev_one fun k => by
        simp only [impl_takeLots.l0]
        rw [if_neg (by omega)]
    | succ n ih =>
      intro i q c out hn hi q0 q1 c0 c1 ho
      have h1 : i < l.length := by omega
      obtain ⟨x, hx⟩ : ∃ x, l.getD i z37 = x := ⟨_, rfl⟩
      have e : l.drop i = x :: l.drop (i + 1) := by rw [← hx]; exact drop_getD z37 l i h1
      have hm : x ∈ l := List.mem_of_mem_drop (i := i) (by rw [e]; exact List.mem_cons_self ..)
      have hfx := hf x hm
      have hF := hfx
      unfold E1.Form at hF
      have hfd : ∀ y ∈ l.drop (i + 1), E1.Form y := fun y hy => hf y (List.mem_of_mem_drop hy)
      rw [e]
      simp only [left, cost]
      by_cases hq : x.f3 ≤ q
      · rw [if_pos hq, if_pos hq]
        have hmn : mn q x.f3 = x.f3 := by unfold mn; split <;> omega
        have h2 := ih (i + 1) (q - x.f3) (c + x.f4) out (by omega) (by omega) (by omega) (by omega) (by omega) (by omega) (by omega)
        rw [show c + (x.f4 + cost (l.drop (i + 1)) (q - x.f3)) = c + x.f4 + cost (l.drop (i + 1)) (q - x.f3) by omega]
        refine Ev.step (f := fun k => (impl_MulDiv.f k x.f4 x.f3 x.f3).bind fun t => impl_takeLots.l0 k (wrap64 (q - x.f3)) (wrap64 (c + t.1)) out l (l.length : Int) ((i + 1 : Nat) : Int)) (fun k => ?_) (Ev_bind (A2.mulDiv_i x.f4 x.f3 x.f3) ?_)
        · show impl_takeLots.l0 (k + 1) q c out l (l.length : Int) (i : Int) = _
          simp only [impl_takeLots.l0]
          rw [if_pos (by omega), if_pos (by omega), if_pos (by omega), w_succ h1 (by omega)]
          simp only [rdL, hx, hmn]
          simp only [Int.lt_irrefl, if_false]
        · have hp : (A2.mdR x.f4 x.f3 x.f3).1 = x.f4 := paid_all hfx
          refine Ev.congr (fun k => ?_) h2
          show impl_takeLots.l0 k (wrap64 (q - x.f3)) (wrap64 (c + (A2.mdR x.f4 x.f3 x.f3).1)) out l (l.length : Int) ((i + 1 : Nat) : Int) = _
          rw [hp, w64_in (q - x.f3) (by omega) (by omega), w64_in (c + x.f4) (by omega) (by omega)]
      · rw [if_neg hq, if_neg hq]
        have hmn : mn q x.f3 = q := by unfold mn; split <;> omega
        have hp := paid_ok hfx q0 (by omega)
        have h2 := ih (i + 1) 0 (c + paid x q) (out ++ [cut x q]) (by omega) (by omega) (by omega) (by omega) (by omega) (by omega) (by rw [List.length_append, List.length_singleton]; omega)
        rw [(left_none hfd).1, (left_none hfd).2, Int.add_zero, List.append_assoc] at h2
        refine Ev.step (f := fun k => (impl_MulDiv.f k x.f4 q x.f3).bind fun t => impl_takeLots.l0 k (wrap64 (q - q)) (wrap64 (c + t.1)) (out ++ [⟨x.f0, x.f1, x.f2, wrap64 (x.f3 - q), wrap64 (x.f4 - t.1)⟩]) l (l.length : Int) ((i + 1 : Nat) : Int)) (fun k => ?_) (Ev_bind (A2.mulDiv_i x.f4 q x.f3) ?_)
        · show impl_takeLots.l0 (k + 1) q c out l (l.length : Int) (i : Int) = _
          simp only [impl_takeLots.l0]
          rw [if_pos (by omega), if_pos (by omega), if_pos (by omega), w_succ h1 (by omega)]
          simp only [rdL, hx, hmn]
          simp only [show q < x.f3 from by omega, show out.length < 3518437208883 from by omega, if_true]
        · refine Ev.congr (fun k => ?_) h2
          show impl_takeLots.l0 k (wrap64 (q - q)) (wrap64 (c + paid x q)) (out ++ [(⟨x.f0, x.f1, x.f2, wrap64 (x.f3 - q), wrap64 (x.f4 - paid x q)⟩ : SL)]) l (l.length : Int) ((i + 1 : Nat) : Int) = _
          rw [w64_in (q - q) (by omega) (by omega), w64_in (c + paid x q) (by omega) (by omega), w64_in (x.f3 - q) (by omega) (by omega), w64_in (x.f4 - paid x q) (by omega) (by omega), Int.sub_self]
          rfl
  have h := key _ 0 q 0 [] rfl (Nat.zero_le _) q0 q1 (Int.le_refl _) (by omega) (Nat.le_refl _)
  rw [List.drop_zero, List.nil_append, Int.zero_add] at h
  exact h
theorem rd_mid (A B : List SL) (x : SL) : rd_T37 (A ++ x :: B) (A.length : Int) = x := by
  rw [rdL]
  simp
theorem round_s (A B rest : List SL) (x : SL) (way q c : Int) (hl : A.length + B.length ≤ 200) (hx : E1.Form x) (q0 : 0 < q) (q1 : q ≤ 1000000000000000) (c0 : 0 ≤ c) (c1 : c ≤ 1000000000000000000) (R : List SL × Int × Int)
    (h : Ev (fun k => spec_LotTake.l0 k (if x.f3 ≤ q then q - x.f3 else 0) way (if x.f3 ≤ q then A ++ B else A ++ cut x q :: B) rest (if x.f3 ≤ q then c + x.f4 else c + paid x q)) R) :
    Ev (fun k => spec_LotTake.j2 k q way (A ++ x :: B) rest c (A.length : Int)) R := by
  have hF := hx
  unfold E1.Form at hF
  have hlen : (A ++ x :: B).length = A.length + B.length + 1 := by simp; omega
  have e1 : wrap64 ((A.length : Int) + 1) = ((A.length + 1 : Nat) : Int) := w_succ (n := A.length + 1) (Nat.lt_succ_self _) (by omega)
  have g1 : (0 : Int) ≤ ((A.length + 1 : Nat) : Int) := Int.natCast_nonneg _
  have g2 : ((A.length + 1 : Nat) : Int) ≤ ((A ++ x :: B).length : Int) := by
    rw [hlen]
    exact Int.ofNat_le.2 (Nat.add_le_add_right (Nat.le_add_right _ _) 1)
  obtain ⟨p, hp⟩ : ∃ p, p = (if x.f3 ≤ q then x.f3 else q) := ⟨_, rfl⟩
  have p0 : 0 < p := by rw [hp]; split <;> omega
  have p1 : p ≤ x.f3 := by rw [hp]; split <;> omega
  have p2 : p ≤ q := by rw [hp]; split <;> omega
  have hmin : spec_l1Min.f x.f3 q = some p := by
    unfold spec_l1Min.f
    rw [hp]
    by_cases h1 : x.f3 < q
    · rw [if_pos h1, if_pos (by omega)]
    · by_cases h2 : x.f3 = q
      · rw [if_neg h1, if_pos (by omega), h2]
      · rw [if_neg h1, if_neg (by omega)]
  have hpd := paid_ok hx (Int.le_of_lt p0) p1
  have s1 : (A ++ x :: B).set A.length (⟨x.f0, x.f1, x.f2, x.f3 - p, x.f4⟩ : SL) = A ++ (⟨x.f0, x.f1, x.f2, x.f3 - p, x.f4⟩ : SL) :: B := by simp
  have s2 : (A ++ (⟨x.f0, x.f1, x.f2, x.f3 - p, x.f4⟩ : SL) :: B).set A.length (cut x p) = A ++ cut x p :: B := by simp
  have tn : ((A.length : Nat) : Int).toNat = A.length := Int.toNat_natCast _
  have tn1 : ((A.length + 1 : Nat) : Int).toNat = A.length + 1 := Int.toNat_natCast _
  have a1 : (0 : Int) ≤ (A.length : Int) := Int.natCast_nonneg _
  have a2 : (A.length : Int) < ((A ++ x :: B).length : Int) := by rw [hlen]; omega
  have a3 : (A.length : Int) ≤ ((A ++ x :: B).length : Int) := Int.le_of_lt a2
  have b1 : wrap64 (x.f3 - p) = x.f3 - p := w64_in (x.f3 - p) (by omega) (by omega)
  have b2 : wrap64 (x.f4 - paid x p) = x.f4 - paid x p := w64_in (x.f4 - paid x p) (by omega) (by omega)
  have b3 : wrap64 (q - p) = q - p := w64_in (q - p) (by omega) (by omega)
  have b4 : wrap64 (c + paid x p) = c + paid x p := w64_in (c + paid x p) (by omega) (by omega)
  have d1 : ([] : List SL).length + ((A ++ cut x p :: B).take A.length).length < 3518437208883 := by simp; omega
  have d2 : ([] ++ (A ++ cut x p :: B).take A.length).length + ((A ++ cut x p :: B).drop (A.length + 1)).length < 3518437208883 := by simp; omega
  have d3 : ([] ++ (A ++ cut x p :: B).take A.length) ++ (A ++ cut x p :: B).drop (A.length + 1) = A ++ B := by simp
  have step : ∀ k, spec_LotTake.j2 (k + 1) q way (A ++ x :: B) rest c (A.length : Int) = (spec_MulDiv.f k x.f4 p x.f3).bind fun t => if t.1 = paid x p then (if x.f3 - p = 0 then spec_LotTake.l0 k (q - p) way (A ++ B) rest (c + paid x p) else spec_LotTake.l0 k (q - p) way (A ++ cut x p :: B) rest (c + paid x p)) else spec_LotTake.j2 (k + 1) q way (A ++ x :: B) rest c (A.length : Int) := by
    clear hl hF hlen q0 q1 c0 c1 p0 p1 p2 hpd hp
    intro k
    cases hmd : spec_MulDiv.f k x.f4 p x.f3 with
    | none =>
      simp only [spec_LotTake.j2]
      rw [if_pos a1, if_pos a2, rd_mid, hmin, Option.bind_some, hmd]
      rfl
    | some t =>
      rw [Option.bind_some]
      by_cases ht : t.1 = paid x p
      · rw [if_pos ht]
        simp only [spec_LotTake.j2]
        rw [if_pos a1, if_pos a2, rd_mid, hmin, Option.bind_some, hmd, Option.bind_some, ht]
        rw [Option.bind_some, Option.bind_some, tn, b1, b2, b3, b4, s1, rd_mid]
        rw [show (⟨x.f0, x.f1, x.f2, x.f3 - p, x.f4 - paid x p⟩ : SL) = cut x p from rfl, s2, rd_mid]
        show (if x.f3 - p = 0 then _ else _) = _
        by_cases hz : x.f3 - p = 0
        · rw [if_pos hz, if_pos hz, Option.bind_some, if_pos a3, Option.bind_some, if_pos d1, Option.bind_some]
          rw [e1, if_pos g1, if_pos g2, tn1, Option.bind_some, if_pos d2, d3]
        · rw [if_neg hz, if_neg hz]
      · rw [if_neg ht]
  refine Ev.step (f := fun k => (spec_MulDiv.f k x.f4 p x.f3).bind fun t => if t.1 = paid x p then (if x.f3 - p = 0 then spec_LotTake.l0 k (q - p) way (A ++ B) rest (c + paid x p) else spec_LotTake.l0 k (q - p) way (A ++ cut x p :: B) rest (c + paid x p)) else spec_LotTake.j2 (k + 1) q way (A ++ x :: B) rest c (A.length : Int)) step (Ev_bind (A2.mulDiv_s x.f4 p x.f3) (Ev.congr (fun k => if_pos rfl) ?_))
  by_cases h1 : x.f3 ≤ q
  · have ep : p = x.f3 := by rw [hp, if_pos h1]
    rw [if_pos h1, if_pos h1, if_pos h1] at h
    rw [ep, paid_all hx]
    exact Ev.congr (fun k => if_pos (by omega)) h
  · have ep : p = q := by rw [hp, if_neg h1]
    rw [if_neg h1, if_neg h1, if_neg h1] at h
    rw [ep, Int.sub_self]
    exact Ev.congr (fun k => if_neg (by omega)) h
theorem end_s (own rest : List SL) (way c : Int) (hl : own.length + rest.length ≤ 3000000) : Ev (fun k => spec_LotTake.l0 k 0 way own rest c) (mergeL rest own, c, 0) := by
  refine Ev.step (f := fun k => (spec_l5Merge.f k rest own).bind fun t => some (t, c, 0)) (fun k => ?_) (Ev_bind (merge_s rest own (by omega)) (Ev_all_k fun k => rfl))
  show spec_LotTake.l0 (k + 1) 0 way own rest c = _
  simp only [spec_LotTake.l0]
  rw [if_neg (by omega)]
theorem first_s (rest : List SL) (hr : rest.length ≤ 1000000) (way : Int) (hw : way ≠ 2) : ∀ (l : List SL) (q c : Int), l.length ≤ 120 → (∀ x ∈ l, E1.Form x) → 0 ≤ q → q ≤ tot l → q ≤ 1000000000000000 → 0 ≤ c → c + l.length * 1000000000000000 ≤ 1000000000000000000 →
    Ev (fun k => spec_LotTake.l0 k q way l rest c) (mergeL rest (left l q), c + cost l q, 0)
  | [], q, c, _, _, q0, q1, _, _, _ => by
    have e : q = 0 := by simp only [tot] at q1; omega
    rw [e]
    simp only [left, cost, Int.add_zero]
    exact end_s [] rest way c (by simp; omega)
  | x :: xs, q, c, hl, hf, q0, q1, q2, c0, c1 => by
    have hx := hf x (List.mem_cons_self ..)
    have hxs : ∀ y ∈ xs, E1.Form y := fun y hy => hf y (List.mem_cons_of_mem _ hy)
    have hF := hx
    unfold E1.Form at hF
    simp only [List.length_cons] at hl c1
    simp only [tot] at q1
    by_cases hz : q = 0
    · rw [hz, (left_none hf).1, (left_none hf).2, Int.add_zero]
      exact end_s (x :: xs) rest way c (by simp; omega)
    · refine Ev.step (f := fun k => spec_LotTake.j2 k q way (x :: xs) rest c 0) (fun k => ?_) (round_s [] xs rest x way q c (by simp; omega) hx (by omega) q2 c0 (by omega) _ ?_)
      · show spec_LotTake.l0 (k + 1) q way (x :: xs) rest c = _
        simp only [spec_LotTake.l0]
        rw [if_pos (by omega), if_neg hw]
      · simp only [left, cost]
        by_cases h1 : x.f3 ≤ q
        · have ih := first_s rest hr way hw xs (q - x.f3) (c + x.f4) (by omega) hxs (by omega) (by omega) (by omega) (by omega) (by omega)
          rw [if_pos h1, if_pos h1, if_pos h1, if_pos h1, if_pos h1, List.nil_append, show c + (x.f4 + cost xs (q - x.f3)) = c + x.f4 + cost xs (q - x.f3) by omega]
          exact ih
        · rw [if_neg h1, if_neg h1, if_neg h1, if_neg h1, if_neg h1, List.nil_append]
          exact end_s (cut x q :: xs) rest way (c + paid x q) (by simp; omega)
theorem last_s (rest : List SL) (hr : rest.length ≤ 1000000) : ∀ (l : List SL) (q c : Int), l.length ≤ 120 → (∀ x ∈ l, E1.Form x) → 0 ≤ q → q ≤ tot l → q ≤ 1000000000000000 → 0 ≤ c → c + l.length * 1000000000000000 ≤ 1000000000000000000 →
    Ev (fun k => spec_LotTake.l0 k q 2 l.reverse rest c) (mergeL rest (left l q).reverse, c + cost l q, 0)
  | [], q, c, _, _, q0, q1, _, _, _ => by
    have e : q = 0 := by simp only [tot] at q1; omega
    rw [e]
    simp only [left, cost, Int.add_zero]
    exact end_s [] rest 2 c (by simp; omega)
  | x :: xs, q, c, hl, hf, q0, q1, q2, c0, c1 => by
    have hx := hf x (List.mem_cons_self ..)
    have hxs : ∀ y ∈ xs, E1.Form y := fun y hy => hf y (List.mem_cons_of_mem _ hy)
    have hF := hx
    unfold E1.Form at hF
    simp only [List.length_cons] at hl c1
    simp only [tot] at q1
    by_cases hz : q = 0
    · rw [hz, (left_none hf).1, (left_none hf).2, Int.add_zero]
      exact end_s (x :: xs).reverse rest 2 c (by simp; omega)
    · rw [List.reverse_cons]
      have hj := round_s xs.reverse [] rest x 2 q c (by simp; omega) hx (by omega) q2 c0 (by omega) (mergeL rest (left (x :: xs) q).reverse, c + cost (x :: xs) q, 0) (by
        simp only [left, cost]
        by_cases h1 : x.f3 ≤ q
        · have ih := last_s rest hr xs (q - x.f3) (c + x.f4) (by omega) hxs (by omega) (by omega) (by omega) (by omega) (by omega)
          rw [if_pos h1, if_pos h1, if_pos h1, if_pos h1, if_pos h1, List.append_nil, show c + (x.f4 + cost xs (q - x.f3)) = c + x.f4 + cost xs (q - x.f3) by omega]
          exact ih
        · rw [if_neg h1, if_neg h1, if_neg h1, if_neg h1, if_neg h1, List.reverse_cons]
          exact end_s (xs.reverse ++ [cut x q]) rest 2 (c + paid x q) (by simp; omega))
      refine Ev.step (f := fun k => spec_LotTake.j2 k q 2 (xs.reverse ++ x :: []) rest c (xs.reverse.length : Int)) (fun k => ?_) hj
      show spec_LotTake.l0 (k + 1) q 2 (xs.reverse ++ [x]) rest c = _
      simp only [spec_LotTake.l0]
      rw [if_pos (by omega), if_pos trivial]
      congr 1
      rw [List.length_append, List.length_singleton]
      unfold wrap64
      simp
      omega
end Go.Proofs.Ytomanpmffjkkgaa.E6
namespace Go.Proofs.Ytomanpmffjkkgaa.E7
open Go Go.RowKit Go.Proofs.Ytomanpmffjkkgaa.P Go.Proofs.YtomanpmffjkkgaaW.PrintWords Go.Proofs.YtomanpmffjkkgaaW.PrintLast Go.Proofs.Ytomanpmffjkkgaa.EV Go.Proofs.Ytomanpmffjkkgaa.I1 Go.Proofs.Ytomanpmffjkkgaa.N1 Go.Proofs.Ytomanpmffjkkgaa.E1 Go.Proofs.Ytomanpmffjkkgaa.E2 Go.Proofs.Ytomanpmffjkkgaa.E3 Go.Proofs.Ytomanpmffjkkgaa.E4 Go.Proofs.Ytomanpmffjkkgaa.E5 Go.Proofs.Ytomanpmffjkkgaa.E6
theorem rev_i (l : List SL) (hl : l.length ≤ 1048576) : impl_Lot_67.f l = some l.reverse := by
  unfold impl_Lot_67.f
  rw [if_pos (by omega)]
theorem sums_t : ∀ (m : List SL) (q c : Int), (∀ x ∈ m, E1.Form x) → 0 ≤ q → 0 ≤ c → q + m.length * 1000000000000000 ≤ 9000000000000000000 → c + m.length * 1000000000000000 ≤ 9000000000000000000 →
    impl_LotsOk.sum3 m q = q + tot m ∧ impl_LotsOk.sum4 m c = c + all4 m
  | [], q, c, _, _, _, _, _ => by simp [impl_LotsOk.sum3, impl_LotsOk.sum4, tot, all4]
  | x :: xs, q, c, hf, h0, h1, h2, h3 => by
    have hx := hf x (List.mem_cons_self ..)
    unfold E1.Form at hx
    simp only [List.length_cons] at h2 h3
    have ih := sums_t xs (q + x.f3) (c + x.f4) (fun y hy => hf y (List.mem_cons_of_mem _ hy)) (by omega) (by omega) (by omega) (by omega)
    simp only [impl_LotsOk.sum3, impl_LotsOk.sum4, List.foldl_cons, tot, all4] at ih ⊢
    rw [w64_in (q + x.f3) (by omega) (by omega), w64_in (c + x.f4) (by omega) (by omega), ih.1, ih.2]
    omega
theorem tot_of (a b : Int) : ∀ l : List SL, tot (ofL a b l) = qty a b l ∧ all4 (ofL a b l) = cst a b l
  | [] => ⟨rfl, rfl⟩
  | x :: xs => by
    have ih := tot_of a b xs
    unfold ofL at *
    by_cases h : x.f0 = a ∧ x.f1 = b
    · rw [List.filter_cons_of_pos (by unfold Own; exact decide_eq_true h)]
      simp only [tot, all4, qty, cst]
      rw [if_pos h, if_pos h, ih.1, ih.2]
      exact ⟨rfl, rfl⟩
    · rw [List.filter_cons_of_neg (by unfold Own; rw [decide_eq_false h]; decide)]
      simp only [qty, cst]
      rw [if_neg h, if_neg h, ih.1, ih.2]
      omega
theorem tot_app : ∀ (l m : List SL), tot (l ++ m) = tot l + tot m ∧ all4 (l ++ m) = all4 l + all4 m
  | [], m => by simp [tot, all4]
  | x :: xs, m => by
    have ih := tot_app xs m
    simp only [List.cons_append, tot, all4]
    omega
theorem tot_rev : ∀ l : List SL, tot l.reverse = tot l ∧ all4 l.reverse = all4 l
  | [] => ⟨rfl, rfl⟩
  | x :: xs => by
    have ih := tot_rev xs
    have h := tot_app xs.reverse [x]
    rw [List.reverse_cons, h.1, h.2, ih.1, ih.2]
    simp only [tot, all4]
    omega
def whole (own : List SL) : SL := ⟨(own.getD 0 z37).f0, (own.getD 0 z37).f1, (own.getD 0 z37).f2, tot own, all4 own⟩
def src (w : Int) (own : List SL) : List SL := if w = 1 then own else if w = 2 then own.reverse else [whole own]
def tk (w : Int) (m : List SL) : List SL := if w = 2 then m.reverse else m
def takeR (l : List SL) (a b q w : Int) : List SL × Int × Int :=
  if impl_LotsOk.ok l = true ∧ (1 ≤ q ∧ q ≤ 1000000000000000) ∧ (1 ≤ w ∧ w ≤ 3) then (if tot (ofL a b l) < q then (l, 0, 2) else (mergeL (outL a b l) (tk w (left (src w (ofL a b l)) q)), cost (src w (ofL a b l)) q, 0)) else ([], 0, 1)
structure Own' (a b : Int) (own : List SL) : Prop where
  len : own.length ≤ 120
  form : ∀ x ∈ own, E1.Form x
  key : ∀ x ∈ own, x.f0 = a ∧ x.f1 = b
  pw : own.Pairwise Lt
  tot1 : tot own ≤ 1000000000000000
  all1 : all4 own ≤ 1000000000000000
theorem own_of {l : List SL} (h : E1.Right l) (a b : Int) : Own' a b (ofL a b l) where
  len := by have := of_len a b l; have := h.1; omega
  form x hx := h.2.1 x (List.mem_filter.1 hx).1
  key x hx := of_decide_eq_true (List.mem_filter.1 hx).2
  pw := (right_pw h.2.2.1).filter _
  tot1 := by rw [(tot_of a b l).1]; exact (h.2.2.2 a b).1.2
  all1 := by rw [(tot_of a b l).2]; exact (h.2.2.2 a b).2.2
theorem all4_pos : ∀ {m : List SL}, (∀ y ∈ m, E1.Form y) → 0 ≤ all4 m ∧ 0 ≤ tot m
  | [], _ => ⟨Int.le_refl _, Int.le_refl _⟩
  | z :: zs, hm => by
    have h4 := hm z (List.mem_cons_self ..)
    have h5 := all4_pos (m := zs) fun y hy => hm y (List.mem_cons_of_mem _ hy)
    unfold E1.Form at h4
    simp only [all4, tot]
    omega
theorem whole_form {a b : Int} {own : List SL} (h : Own' a b own) (h0 : 0 < tot own) : E1.Form (whole own) ∧ (whole own).f0 = a ∧ (whole own).f1 = b := by
  have hp := all4_pos h.form
  cases own with
  | nil => simp only [tot] at h0; omega
  | cons x xs =>
    have hx := h.form x (List.mem_cons_self ..)
    have hk := h.key x (List.mem_cons_self ..)
    have h1 := h.tot1
    have h2 := h.all1
    unfold E1.Form No at *
    have e : (x :: xs).getD 0 z37 = x := rfl
    unfold whole
    simp only [e]
    omega
theorem src_ok {a b : Int} {own : List SL} (h : Own' a b own) (h0 : 0 < tot own) (w : Int) :
    (src w own).length ≤ 120 ∧ (∀ x ∈ src w own, E1.Form x) ∧ (∀ x ∈ src w own, x.f0 = a ∧ x.f1 = b) ∧ tot (src w own) = tot own ∧ all4 (src w own) = all4 own := by
  unfold src
  split
  · exact ⟨h.len, h.form, h.key, rfl, rfl⟩
  · split
    · exact ⟨by rw [List.length_reverse]; exact h.len, fun x hx => h.form x (List.mem_reverse.1 hx), fun x hx => h.key x (List.mem_reverse.1 hx), (tot_rev own).1, (tot_rev own).2⟩
    · have hw := whole_form h h0
      refine ⟨by simp, fun x hx => ?_, fun x hx => ?_, by simp only [tot]; unfold whole; simp only []; omega, by simp only [all4]; unfold whole; simp only []; omega⟩
      · rw [List.mem_singleton.1 hx]
        exact hw.1
      · rw [List.mem_singleton.1 hx]
        exact hw.2
theorem tk_perm (w : Int) (m : List SL) : m.Perm (tk w m) := by
  unfold tk
  split
  · exact (List.reverse_perm m).symm
  · exact List.Perm.refl _
theorem tk_pw {a b : Int} {own : List SL} (h : Own' a b own) (w q : Int) : (tk w (left (src w own) q)).Pairwise Lt := by
  unfold tk src
  by_cases h1 : w = 1
  · rw [if_pos h1, if_neg (by omega)]
    exact left_pw (fun x p z hz => hz) h.pw
  · rw [if_neg h1]
    by_cases h2 : w = 2
    · rw [if_pos h2, if_pos h2]
      refine List.pairwise_reverse.2 (left_pw (R := fun x y => Lt y x) (fun x p z hz => hz) (List.pairwise_reverse.2 ?_))
      exact h.pw
    · rw [if_neg h2, if_neg h2]
      exact left_pw (fun x p z hz => hz) (List.pairwise_singleton _ _)
theorem tk_own {a b : Int} {own : List SL} (h : Own' a b own) (h0 : 0 < tot own) (w q : Int) : ∀ x ∈ tk w (left (src w own) q), x.f0 = a ∧ x.f1 = b := fun x hx =>
  left_own (src_ok h h0 w).2.2.1 x ((tk_perm w _).mem_iff.2 hx)
theorem mean_eq (own : List SL) (q : Int) (h : q ≤ tot own) : left [whole own] q = (if tot own = q then [] else [cut (whole own) q]) := by
  have e : (whole own).f3 = tot own := rfl
  simp only [left]
  by_cases h1 : tot own = q
  · rw [if_pos (by omega), if_pos h1]
  · rw [if_neg (by omega), if_neg h1]
theorem mean_cost {own : List SL} (hf : E1.Form (whole own)) (q : Int) (h : q ≤ tot own) : cost [whole own] q = (A2.mdR (all4 own) q (tot own)).1 := by
  have e : (whole own).f3 = tot own := rfl
  have e4 : (whole own).f4 = all4 own := rfl
  simp only [cost]
  by_cases h1 : tot own = q
  · have := paid_all hf
    unfold paid at this
    rw [e, e4] at this
    rw [if_pos (by omega), ← h1, this, e4]
    omega
  · rw [if_neg (by omega)]
    rfl
theorem own_ne {own : List SL} (h : 0 < tot own) : 0 < own.length := by
  cases own with
  | nil => simp only [tot] at h; omega
  | cons x xs => simp
theorem mean_i {a b : Int} {own : List SL} (h : Own' a b own) (q : Int) (h0 : 0 < q) (h1 : q ≤ tot own) : Ev (fun k => impl_meanLots.f k own q) (left [whole own] q, cost [whole own] q) := by
  have hw := whole_form h (by omega)
  have hs := sums_t own 0 0 h.form (by omega) (by omega) (by have := h.len; omega) (by have := h.len; omega)
  have hn := own_ne (own := own) (by omega)
  have hp := paid_ok hw.1 (p := q) (by omega) h1
  have hW := hw.1
  unfold E1.Form at hW
  have e3 : (whole own).f3 = tot own := rfl
  have e4 : (whole own).f4 = all4 own := rfl
  have ep : paid (whole own) q = (A2.mdR (all4 own) q (tot own)).1 := rfl
  rw [e3, e4] at hW
  rw [e4, ep] at hp
  unfold impl_meanLots.f
  refine Ev_bind (sums_i own (by have := h.len; omega)) ?_
  rw [hs.1, hs.2, Int.zero_add, Int.zero_add]
  refine Ev_bind (A2.mulDiv_i (all4 own) q (tot own)) (Ev_all_k fun k => ?_)
  rw [mean_eq own q h1, mean_cost hw.1 q h1]
  show (if tot own = q then _ else _) = _
  by_cases hq : tot own = q
  · rw [if_pos hq, if_pos hq]
  · rw [if_neg hq, if_neg hq, if_pos (by omega), w64_in (tot own - q) (by omega) (by omega), w64_in (all4 own - (A2.mdR (all4 own) q (tot own)).1) (by omega) (by omega)]
    have e0 : rd_T37 own 0 = own.getD 0 z37 := rdL own 0
    rw [e0]
    rfl
theorem mean_s {a b : Int} {own : List SL} (h : Own' a b own) (q : Int) (h0 : 0 < q) (h1 : q ≤ tot own) : Ev (fun k => spec_l5Mean.f k own q) (left [whole own] q, cost [whole own] q) := by
  have hw := whole_form h (by omega)
  have hs := sums_t own 0 0 h.form (by omega) (by omega) (by have := h.len; omega) (by have := h.len; omega)
  have hn := own_ne (own := own) (by omega)
  have hp := paid_ok hw.1 (p := q) (by omega) h1
  have hW := hw.1
  unfold E1.Form at hW
  have e3 : (whole own).f3 = tot own := rfl
  have e4 : (whole own).f4 = all4 own := rfl
  have ep : paid (whole own) q = (A2.mdR (all4 own) q (tot own)).1 := rfl
  rw [e3, e4] at hW
  rw [e4, ep] at hp
  unfold spec_l5Mean.f
  refine Ev_bind (qty_s own (by have := h.len; omega)) (Ev_bind (cost_s own (by have := h.len; omega)) ?_)
  rw [hs.1, hs.2, Int.zero_add, Int.zero_add]
  refine Ev_bind (A2.mulDiv_s (all4 own) q (tot own)) (Ev_all_k fun k => ?_)
  rw [mean_eq own q h1, mean_cost hw.1 q h1]
  show (if tot own = q then _ else _) = _
  by_cases hq : tot own = q
  · rw [if_pos hq, if_pos hq]
  · rw [if_neg hq, if_neg hq, if_pos (by omega), w64_in (tot own - q) (by omega) (by omega), w64_in (all4 own - (A2.mdR (all4 own) q (tot own)).1) (by omega) (by omega)]
    have e0 : rd_T37 own 0 = own.getD 0 z37 := rdL own 0
    rw [e0]
    rfl
theorem take_s (l : List SL) (a b q w : Int) (hl : l.length ≤ 1048576) : Ev (fun k => spec_LotTake.f k l a b q w) (takeR l a b q w) := by
  unfold spec_LotTake.f takeR
  have bad : Ev (fun k => spec_LotTake.j0 k l a b q w true) (([] : List SL), (0 : Int), (1 : Int)) := Ev_one fun k => by
    simp only [spec_LotTake.j0]
    rw [if_pos trivial]
  refine Ev_bind (lotsOk_s l) ?_
  by_cases h : impl_LotsOk.ok l = true
  · refine Ev.congr (fun k => by rw [if_pos h, E1.some_s, Option.bind_some]) ?_
    by_cases hq : 1 ≤ q ∧ q ≤ 1000000000000000
    · refine Ev.congr (fun k => by rw [if_pos (decide_eq_true hq), in_s, Option.bind_some]) ?_
      by_cases hw : 1 ≤ w ∧ w ≤ 3
      · rw [if_pos ⟨h, hq, hw⟩]
        have hR := (ok_iff l).1 h
        have hO := own_of hR a b
        obtain ⟨own, ho⟩ : ∃ own, own = ofL a b l := ⟨_, rfl⟩
        rw [← ho] at hO ⊢
        have hs := sums_t own 0 0 hO.form (by omega) (by omega) (by have := hO.len; omega) (by have := hO.len; omega)
        have hol := out_len a b l
        have hlen := hO.len
        have h120 := hR.1
        have hz0 : ([] : List SL).length + l.length < 3518437208883 := by simp; omega
        refine Ev.step (f := fun k => (spec_l5Split.f k l a b).bind fun t => (spec_l5Qty.f k t.1).bind fun n => if n < q then some (([] : List SL) ++ l, 0, 2) else if w = 3 then (spec_l5Mean.f k t.1 q).bind fun u => (spec_l5Merge.f k t.2 u.1).bind fun m => some (m, u.2, 0) else spec_LotTake.l0 k q w t.1 t.2 0) (fun k => ?_) ?_
        · rw [decide_eq_true hw]
          simp only [spec_LotTake.j0]
          rw [if_neg (by decide)]
          congr 1
          funext t
          congr 1
          funext n
          rw [Option.bind_some, if_pos hz0]
        · refine Ev_bind (split_s l a b (by omega)) ?_
          rw [← ho]
          refine Ev_bind (qty_s own (by omega)) ?_
          rw [hs.1, Int.zero_add]
          by_cases ht : tot own < q
          · rw [if_pos ht]
            exact Ev_all_k fun k => if_pos ht
          · rw [if_neg ht]
            refine Ev.congr (fun k => if_neg ht) ?_
            by_cases h3 : w = 3
            · have e1 : src w own = [whole own] := by unfold src; rw [if_neg (by omega), if_neg (by omega)]
              have e2 : ∀ m, tk w m = m := fun m => by unfold tk; rw [if_neg (by omega)]
              rw [e1, e2]
              refine Ev.congr (fun k => if_pos h3) ?_
              refine Ev_bind (mean_s hO q (by omega) (by omega)) (Ev_bind (merge_s _ _ ?_) (Ev_all_k fun k => rfl))
              have := left_len [whole own] q
              simp only [List.length_singleton] at this
              show (outL a b l).length + (left [whole own] q).length ≤ 3000000
              omega
            · refine Ev.congr (fun k => if_neg h3) ?_
              by_cases h2 : w = 2
              · have e1 : src w own = own.reverse := by unfold src; rw [if_neg (by omega), if_pos h2]
                have e2 : ∀ m, tk w m = m.reverse := fun m => by unfold tk; rw [if_pos h2]
                have hj := last_s (outL a b l) (by omega) own.reverse q 0 (by rw [List.length_reverse]; omega) (fun x hx => hO.form x (List.mem_reverse.1 hx)) (by omega) (by rw [(tot_rev own).1]; omega) (by omega) (by omega) (by rw [List.length_reverse]; omega)
                rw [List.reverse_reverse, Int.zero_add] at hj
                rw [e1, e2, h2]
                exact hj
              · have e1 : src w own = own := by unfold src; rw [if_pos (by omega)]
                have e2 : ∀ m, tk w m = m := fun m => by unfold tk; rw [if_neg h2]
                have hj := first_s (outL a b l) (by omega) w h2 own q 0 (by omega) hO.form (by omega) (by omega) (by omega) (by omega) (by omega)
                rw [Int.zero_add] at hj
                rw [e1, e2]
                exact hj
      · rw [if_neg fun g => hw g.2.2]
        exact Ev.congr (fun k => by rw [decide_eq_false hw]; rfl) bad
    · rw [if_neg fun g => hq g.2.1]
      exact Ev.congr (fun k => by rw [if_neg (by rw [decide_eq_false hq]; decide)]) bad
  · rw [if_neg fun g => h g.1]
    exact Ev.congr (fun k => if_neg h) bad
theorem take_r (l : List SL) (a b q w : Int) (hl : l.length ≤ 1048576) : Ev (fun k => impl_LotTake.f k l a b q w) (takeR l a b q w) := by
  unfold impl_LotTake.f takeR
  have bad : Ev (fun k => impl_LotTake.j0 k l a b q w true) (([] : List SL), (0 : Int), (1 : Int)) := Ev_one fun k => by
    simp only [impl_LotTake.j0]
    rw [if_pos trivial]
  have okf : impl_LotsOk.f l = some (impl_LotsOk.ok l) := by
    unfold impl_LotsOk.f
    rw [if_pos (by omega)]
  by_cases h : impl_LotsOk.ok l = true
  · refine Ev.congr (fun k => by rw [okf, Option.bind_some, if_pos h, in_i, Option.bind_some]) ?_
    by_cases hq : 1 ≤ q ∧ q ≤ 1000000000000000
    · refine Ev.congr (fun k => by rw [if_pos (decide_eq_true hq), in_i, Option.bind_some]) ?_
      by_cases hw : 1 ≤ w ∧ w ≤ 3
      · rw [if_pos ⟨h, hq, hw⟩]
        have hR := (ok_iff l).1 h
        have hO := own_of hR a b
        have hf : impl_lotsOf.f l a b = some (ofL a b l) := by
          unfold impl_lotsOf.f
          rw [if_pos (by omega)]
          rfl
        obtain ⟨own, ho⟩ : ∃ own, own = ofL a b l := ⟨_, rfl⟩
        rw [← ho] at hO hf ⊢
        have hs := sums_t own 0 0 hO.form (by omega) (by omega) (by have := hO.len; omega) (by have := hO.len; omega)
        have hlen := hO.len
        have c1 : impl_Lot_55.f l = some l := by
          unfold impl_Lot_55.f
          rw [Option.bind_some, if_pos (by simp; omega), List.nil_append]
        refine Ev.step (f := fun k => (impl_sumLots.f k own).bind fun t => if t.1 < q then some (l, 0, 2) else if w = 1 then (impl_takeLots.f k own q).bind fun u => (impl_withLots.f l a b u.1).bind fun m => some (m, u.2, 0) else if w = 2 then (impl_Lot_67.f own).bind fun r => (impl_takeLots.f k r q).bind fun u => (impl_withLots.f l a b u.1).bind fun m => some (m, u.2, 0) else if w = 3 then (impl_meanLots.f k own q).bind fun u => (impl_withLots.f l a b u.1).bind fun m => some (m, u.2, 0) else (impl_withLots.f l a b ([] : List SL)).bind fun m => some (m, 0, 0)) (fun k => ?_) ?_
        · rw [decide_eq_true hw]
          simp only [impl_LotTake.j0]
          rw [if_neg (by decide), hf, Option.bind_some, c1, Option.bind_some]
        · refine Ev_bind (sums_i own (by omega)) ?_
          rw [hs.1, hs.2, Int.zero_add, Int.zero_add]
          by_cases ht : tot own < q
          · rw [if_pos ht]
            exact Ev_all_k fun k => if_pos ht
          · rw [if_neg ht]
            refine Ev.congr (fun k => if_neg ht) ?_
            have h0 : 0 < tot own := by omega
            have hm : (left (src w own) q).length ≤ 1048576 := by
              have := left_len (src w own) q
              have := (src_ok hO h0 w).1
              omega
            have hwi := (with_i l a b (left (src w own) q) (tk w (left (src w own) q)) hl hm (right_pw hR.2.2.1) (tk_perm w _) (tk_pw hO w q) (tk_own hO h0 w q)).1
            have fin : ∀ u : List SL × Int, u = (left (src w own) q, cost (src w own) q) → Ev (fun _ : Nat => (impl_withLots.f l a b u.1).bind fun m => some (m, u.2, (0 : Int))) (mergeL (outL a b l) (tk w (left (src w own) q)), cost (src w own) q, 0) := fun u hu => by
              rw [hu]
              exact Ev_all_k fun k => by rw [hwi, Option.bind_some]
            by_cases h1 : w = 1
            · have e1 : src w own = own := by unfold src; rw [if_pos h1]
              refine Ev.congr (fun k => if_pos h1) (Ev_bind (take_i own (by omega) hO.form q (by omega) (by omega)) (fin _ (by rw [e1])))
            · refine Ev.congr (fun k => if_neg h1) ?_
              by_cases h2 : w = 2
              · have e1 : src w own = own.reverse := by unfold src; rw [if_neg (by omega), if_pos h2]
                refine Ev.congr (fun k => if_pos h2) (Ev_bind (Ev_all_k fun k => rev_i own (by omega)) (Ev_bind (take_i own.reverse (by rw [List.length_reverse]; omega) (fun x hx => hO.form x (List.mem_reverse.1 hx)) q (by omega) (by omega)) (fin _ (by rw [e1]))))
              · have e1 : src w own = [whole own] := by unfold src; rw [if_neg (by omega), if_neg h2]
                refine Ev.congr (fun k => (if_neg h2).trans (if_pos (by omega))) (Ev_bind (mean_i hO q (by omega) (by omega)) (fin _ (by rw [e1])))
      · rw [if_neg fun g => hw g.2.2]
        exact Ev.congr (fun k => by rw [decide_eq_false hw]; rfl) bad
    · rw [if_neg fun g => hq g.2.1]
      exact Ev.congr (fun k => by rw [if_neg (by rw [decide_eq_false hq]; decide)]) bad
  · rw [if_neg fun g => h g.1]
    exact Ev.congr (fun k => by rw [okf, Option.bind_some, if_neg h]) bad
end Go.Proofs.Ytomanpmffjkkgaa.E7
namespace Go.Proofs.Ytomanpmffjkkgaa.E8
open Go Go.RowKit Go.Proofs.Ytomanpmffjkkgaa.P Go.Proofs.YtomanpmffjkkgaaW.PrintWords Go.Proofs.YtomanpmffjkkgaaW.PrintLast Go.Proofs.Ytomanpmffjkkgaa.EV Go.Proofs.Ytomanpmffjkkgaa.I1 Go.Proofs.Ytomanpmffjkkgaa.N1 Go.Proofs.Ytomanpmffjkkgaa.E1 Go.Proofs.Ytomanpmffjkkgaa.E2 Go.Proofs.Ytomanpmffjkkgaa.E3 Go.Proofs.Ytomanpmffjkkgaa.E4 Go.Proofs.Ytomanpmffjkkgaa.E5 Go.Proofs.Ytomanpmffjkkgaa.E6 Go.Proofs.Ytomanpmffjkkgaa.E7
theorem filt_left (p : SL → Bool) : ∀ (xs ys : List SL), (∀ y ∈ ys, p y = false) → (mergeL xs ys).filter p = xs.filter p
  | [], ys, h => by
    rw [nil_merge, List.filter_nil]
    exact List.filter_eq_nil_iff.2 fun y hy => by rw [h y hy]; decide
  | x :: xs, [], _ => by rw [merge_nil]
  | x :: xs, y :: ys, h => by
    rw [mergeL]
    split
    · rw [List.filter_cons, List.filter_cons, filt_left p xs (y :: ys) h]
    · rw [List.filter_cons_of_neg (by rw [h y (List.mem_cons_self ..)]; decide), filt_left p (x :: xs) ys fun z hz => h z (List.mem_cons_of_mem _ hz)]
termination_by xs ys => xs.length + ys.length
theorem filt_right (p : SL → Bool) : ∀ (xs ys : List SL), (∀ x ∈ xs, p x = false) → (mergeL xs ys).filter p = ys.filter p
  | [], ys, _ => by rw [nil_merge]
  | x :: xs, [], h => by
    rw [merge_nil, List.filter_nil]
    exact List.filter_eq_nil_iff.2 fun y hy => by rw [h y hy]; decide
  | x :: xs, y :: ys, h => by
    rw [mergeL]
    split
    · rw [List.filter_cons_of_neg (by rw [h x (List.mem_cons_self ..)]; decide), filt_right p xs (y :: ys) fun z hz => h z (List.mem_cons_of_mem _ hz)]
    · rw [List.filter_cons, List.filter_cons, filt_right p (x :: xs) ys h]
termination_by xs ys => xs.length + ys.length
theorem own_true {a b : Int} {x : SL} (h : x.f0 = a ∧ x.f1 = b) : Own a b x = true := decide_eq_true h
theorem own_false {a b : Int} {x : SL} (h : ¬(x.f0 = a ∧ x.f1 = b)) : Own a b x = false := decide_eq_false h
theorem of_own {a b : Int} (l : List SL) {s : List SL} (hs : ∀ x ∈ s, x.f0 = a ∧ x.f1 = b) : ofL a b (mergeL (outL a b l) s) = s := by
  unfold ofL
  rw [filt_right _ _ _ fun x hx => by
    have h := (List.mem_filter.1 hx).2
    rwa [Bool.not_eq_true'] at h]
  exact List.filter_eq_self.2 fun x hx => own_true (hs x hx)
theorem of_other {a b c d : Int} (l : List SL) {s : List SL} (hs : ∀ x ∈ s, x.f0 = a ∧ x.f1 = b) (hn : ¬(c = a ∧ d = b)) : ofL c d (mergeL (outL a b l) s) = ofL c d l := by
  unfold ofL
  rw [filt_left _ _ _ fun x hx => own_false fun h => hn (by have := hs x hx; omega)]
  unfold outL
  rw [List.filter_filter]
  congr 1
  funext x
  by_cases h : x.f0 = c ∧ x.f1 = d
  · rw [own_true h, own_false (a := a) (b := b) fun g => hn (by omega)]
    rfl
  · rw [own_false h]
    rfl
theorem tot_tk (w : Int) (m : List SL) : tot (tk w m) = tot m ∧ all4 (tk w m) = all4 m := by
  unfold tk
  split
  · exact tot_rev m
  · exact ⟨rfl, rfl⟩
theorem take_sums {a b : Int} {own : List SL} (h : Own' a b own) (w q : Int) (h0 : 0 < q) (h1 : q ≤ tot own) :
    tot (tk w (left (src w own) q)) = tot own - q ∧ all4 (tk w (left (src w own) q)) = all4 own - cost (src w own) q ∧ 0 ≤ cost (src w own) q ∧ cost (src w own) q ≤ all4 own := by
  have hs := src_ok h (by omega) w
  have hl := left_sums hs.2.1 (q := q) (by omega) (by rw [hs.2.2.2.1]; exact h1)
  rw [(tot_tk w _).1, (tot_tk w _).2]
  rw [hs.2.2.2.1, hs.2.2.2.2] at hl
  exact hl
theorem take_right {l : List SL} (hR : E1.Right l) (a b w q : Int) (h0 : 0 < q) (h1 : q ≤ tot (ofL a b l)) : E1.Right (mergeL (outL a b l) (tk w (left (src w (ofL a b l)) q))) := by
  have hO := own_of hR a b
  have hs := src_ok hO (by omega) w
  have hk := tk_own hO (by omega) w q
  have hts := take_sums hO w q h0 h1
  have hn := own_ne (own := ofL a b l) (by omega)
  have hw := with_i l a b (left (src w (ofL a b l)) q) (tk w (left (src w (ofL a b l)) q)) (by have := hR.1; omega) (by have := left_len (src w (ofL a b l)) q; have := hs.1; omega) (right_pw hR.2.2.1) (tk_perm w _) (tk_pw hO w q) hk
  have hf : ∀ x ∈ tk w (left (src w (ofL a b l)) q), E1.Form x := fun x hx => left_form hs.2.1 (by omega) x ((tk_perm w _).mem_iff.2 hx)
  refine ⟨?_, fun x hx => ?_, pw_chn0 hw.2, fun c d => ?_⟩
  · rw [merge_len, ← (tk_perm w _).length_eq]
    have e1 := left_len (src w (ofL a b l)) q
    have e2 : (src w (ofL a b l)).length ≤ (ofL a b l).length := by
      unfold src
      split
      · omega
      · split
        · rw [List.length_reverse]; omega
        · simp only [List.length_singleton]; omega
    have e3 := (List.filter_append_perm (Own a b) l).length_eq
    rw [List.length_append] at e3
    have e4 : (ofL a b l).length + (outL a b l).length = l.length := e3
    have := hR.1
    omega
  · rcases List.mem_append.1 ((merge_perm _ _).mem_iff.1 hx) with h | h
    · exact hR.2.1 x (List.mem_filter.1 h).1
    · exact hf x h
  · rw [← (tot_of c d _).1, ← (tot_of c d _).2]
    by_cases hc : c = a ∧ d = b
    · obtain ⟨rfl, rfl⟩ := hc
      rw [of_own l hk]
      have e1 := all4_pos hf
      have e2 := hO.tot1
      have e3 := hO.all1
      unfold Amt
      omega
    · rw [of_other l hk hc, (tot_of c d l).1, (tot_of c d l).2]
      exact hR.2.2.2 c d
theorem lots_of_right {l : List SL} (h : E1.Right l) (a b : Int) : lotsL l a b = ofL a b l ∧ impl_LotsOk.sum3 (lotsL l a b) 0 = tot (ofL a b l) ∧ impl_LotsOk.sum4 (lotsL l a b) 0 = all4 (ofL a b l) := by
  have e : lotsL l a b = ofL a b l := by
    unfold lotsL
    rw [if_pos ((ok_iff l).2 h)]
  have hO := own_of h a b
  have hs := sums_t (ofL a b l) 0 0 hO.form (by omega) (by omega) (by have := hO.len; omega) (by have := hO.len; omega)
  rw [e, hs.1, hs.2, Int.zero_add, Int.zero_add]
  exact ⟨rfl, rfl, rfl⟩
end Go.Proofs.Ytomanpmffjkkgaa.E8
