/- What the law FnExactTradesOpen leans on, cut out of this repo's own texts by a program of this repo: plain functions, the walks that tie the Go calls to them, the law over lists and numbers, and the row. -/
import Derived.Test.YtmfgajbkcnlkcaaZFnExactTradesOpen3
import Derived.RowKit
import Derived.IntWalk
namespace Go.Proofs.Ytmfgajbkcnlkcaa.P
end Go.Proofs.Ytmfgajbkcnlkcaa.P
namespace Go.Proofs.Ytmfgajbkcnlkcaa.EV
end Go.Proofs.Ytmfgajbkcnlkcaa.EV
namespace Go.Proofs.Ytmfgajbkcnlkcaa.I1
end Go.Proofs.Ytmfgajbkcnlkcaa.I1
namespace Go.Proofs.Ytmfgajbkcnlkcaa.T1
end Go.Proofs.Ytmfgajbkcnlkcaa.T1
namespace Go.Proofs.Ytmfgajbkcnlkcaa.C1
end Go.Proofs.Ytmfgajbkcnlkcaa.C1
namespace Go.Proofs.Ytmfgajbkcnlkcaa.AI
open Go Go.RowKit Go.Proofs.YtmfgajbkcnlkcaaW.PrintWords Go.Proofs.Ytmfgajbkcnlkcaa.P
set_option linter.unusedVariables false
set_option linter.all false
set_option maxRecDepth 100000
def o25 (l0_0 : List S88) (l0_1 : List S90) (l0_2 : List S93) (l0_3 : List S96) (l0_4 : List S50) (r : List Int) : Out Rw := ⟨[.c (.rw 5)], [.rows 0 (.e88 l0_0), .rows 0 (.e90 l0_1), .rows 0 (.e93 l0_2), .rows 0 (.e96 l0_3), .rows 0 (.e50 l0_4), .rows 2 (.eI r)]⟩
def Q25 : Mean Rw := fun k a h Z K => match a, h with
  | [.w (.ag [.rw 0, .rw 1, .rw 2, .rw 3, .rw 4, .sc (.i .i64 a0_5)]), .w (.c (.sc (.i .i64 a1))), .w (.c (.sc (.i .i64 a2)))], [.rows 0 (.e88 l0_0), .rows 0 (.e90 l0_1), .rows 0 (.e93 l0_2), .rows 0 (.e96 l0_3), .rows 0 (.e50 l0_4)] => (spec_TradesOpen.f k l0_0 l0_1 l0_2 l0_3 l0_4 a0_5 a1 a2).bind fun r => K (o25 l0_0 l0_1 l0_2 l0_3 l0_4 r)
  | _, _ => none
def O25 : List (Cal Rw) := [⟨19, false, Q19⟩, ⟨32, false, Q32⟩]
theorem O25_ok : ∀ c ∈ O25, Sound Try.prog c := by
  intro c hc
  simp only [O25, List.mem_cons, List.not_mem_nil, or_false] at hc
  rcases hc with rfl | rfl
  · exact d19
  · exact d32
def C25_0 : Nat → St Rw → Option (Out Rw) := fun k st => match st with
  | ⟨43, 5, 7, [(1, .w (.c (.sc (.i .i64 x1)))), (2, .w (.c (.sc (.i .i64 x2)))), (3, .pt 5 0), (7, .w (.c (.rw 6))), (8, .w (.c (.sc (.i .i64 x8))))], [(0, .rows 0 (.e88 l0_0)), (1, .rows 0 (.e90 l0_1)), (2, .rows 0 (.e93 l0_2)), (3, .rows 0 (.e96 l0_3)), (4, .rows 0 (.e50 l0_4)), (5, .box 34 [.rw 0, .rw 1, .rw 2, .rw 3, .rw 4, .sc (.i .i64 b5_5)]), (6, .rows 2 (.eI y6))]⟩ => (spec_TradesOpen.l0 k x1 x2 y6 x8 l0_0 l0_1 l0_2 l0_3 l0_4 b5_5).bind fun r => some (o25 l0_0 l0_1 l0_2 l0_3 l0_4 r)
  | _ => none
def C25_1 : Nat → St Rw → Option (Out Rw) := fun k st => match st with
  | ⟨43, 5, 7, [(1, .w (.c (.sc (.i .i64 x1)))), (2, .w (.c (.sc (.i .i64 x2)))), (3, .pt 5 0), (7, .w (.c (.rw 6))), (8, .w (.c (.sc (.i .i64 x8)))), (19, .w (.c (.sc (.b x19))))], [(0, .rows 0 (.e88 l0_0)), (1, .rows 0 (.e90 l0_1)), (2, .rows 0 (.e93 l0_2)), (3, .rows 0 (.e96 l0_3)), (4, .rows 0 (.e50 l0_4)), (5, .box 34 [.rw 0, .rw 1, .rw 2, .rw 3, .rw 4, .sc (.i .i64 b5_5)]), (6, .rows 2 (.eI y6))]⟩ => (spec_TradesOpen.j1 k x1 x2 y6 x8 x19 l0_0 l0_1 l0_2 l0_3 l0_4 b5_5).bind fun r => some (o25 l0_0 l0_1 l0_2 l0_3 l0_4 r)
  | _ => none
def K25 : List (Cut Rw) := [⟨[false, true, false, true, true], [1, 2, 3, 7, 8], C25_0⟩, ⟨[true, false, false, false, true, false, true, true], [1, 2, 3, 7, 8, 19], C25_1⟩]
theorem e25_0 (k : Nat) (x1 : Int) (x2 : Int) (x8 : Int) (l0_0 : List S88) (l0_1 : List S90) (l0_2 : List S93) (l0_3 : List S96) (l0_4 : List S50) (b5_5 : Int) (y6 : List Int) : Lo (seg Try.prog O25 K25 k (body Try.f25) (kEnd Try.prog Try.f25.results.toList) [false, true, false, true, true] ⟨43, 5, 7, [(1, .w (.c (.sc (.i .i64 x1)))), (2, .w (.c (.sc (.i .i64 x2)))), (3, .pt 5 0), (7, .w (.c (.rw 6))), (8, .w (.c (.sc (.i .i64 x8))))], [(0, .rows 0 (.e88 l0_0)), (1, .rows 0 (.e90 l0_1)), (2, .rows 0 (.e93 l0_2)), (3, .rows 0 (.e96 l0_3)), (4, .rows 0 (.e50 l0_4)), (5, .box 34 [.rw 0, .rw 1, .rw 2, .rw 3, .rw 4, .sc (.i .i64 b5_5)]), (6, .rows 2 (.eI y6))]⟩) ((spec_TradesOpen.l0 (k + 1) x1 x2 y6 x8 l0_0 l0_1 l0_2 l0_3 l0_4 b5_5).bind fun r => some (o25 l0_0 l0_1 l0_2 l0_3 l0_4 r)) :=
  Lo.of (b := (if x8 < (l0_4.length : Int) then ((spec_BooksOk.f k l0_0 l0_1 l0_2 l0_3 l0_4 b5_5).bind fun r11 => ((spec_TradesOpen.j1 k x1 x2 y6 x8 r11 l0_0 l0_1 l0_2 l0_3 l0_4 b5_5).bind fun r => some (o25 l0_0 l0_1 l0_2 l0_3 l0_4 r))) else ((spec_TradesOpen.j1 k x1 x2 y6 x8 false l0_0 l0_1 l0_2 l0_3 l0_4 b5_5).bind fun r => some (o25 l0_0 l0_1 l0_2 l0_3 l0_4 r)))) (by kernel_rfl) (by
    rw [spec_TradesOpen.l0]
    repeat' first
    | with_reducible exact none_L
    | with_reducible refine letB_L (fun _ _ => ?_)
    | with_reducible refine bind_L (fun _ => ?_)
    | with_reducible refine ite_L (fun _ => ?_) (fun _ => ?_)
    | with_reducible refine drop_L (by first | assumption | omega | (simp only [*, List.length_set]; done)) ?_
    | with_reducible refine let_L ?_
    | with_reducible refine some_L ?_
    | with_reducible refine letT_L ?_
    | with_reducible refine ite_I (by omega) (fun _ => ?_) (fun _ => ?_)
    | rfl
    | simp only [Bool.decide_eq_true]
    | exact Lo.refl _
    | (refine Lo.eq ?_; simp only [Bool.decide_eq_true]; done)
    | refine ite_L (fun _ => ?_) (fun _ => ?_))
theorem h25_0 (k : Nat) (st : St Rw) (out : Out Rw) (h : C25_0 (k + 1) st = some out) : seg Try.prog O25 K25 k (body Try.f25) (kEnd Try.prog Try.f25.results.toList) [false, true, false, true, true] st = some out := by
  unfold C25_0 at h
  split at h
  · exact e25_0 _ _ _ _ _ _ _ _ _ _ _ out h
  · cases h
theorem e25_1 (k : Nat) (x1 : Int) (x2 : Int) (x8 : Int) (x19 : Bool) (l0_0 : List S88) (l0_1 : List S90) (l0_2 : List S93) (l0_3 : List S96) (l0_4 : List S50) (b5_5 : Int) (y6 : List Int) : Lo (seg Try.prog O25 K25 k (body Try.f25) (kEnd Try.prog Try.f25.results.toList) [true, false, false, false, true, false, true, true] ⟨43, 5, 7, [(1, .w (.c (.sc (.i .i64 x1)))), (2, .w (.c (.sc (.i .i64 x2)))), (3, .pt 5 0), (7, .w (.c (.rw 6))), (8, .w (.c (.sc (.i .i64 x8)))), (19, .w (.c (.sc (.b x19))))], [(0, .rows 0 (.e88 l0_0)), (1, .rows 0 (.e90 l0_1)), (2, .rows 0 (.e93 l0_2)), (3, .rows 0 (.e96 l0_3)), (4, .rows 0 (.e50 l0_4)), (5, .box 34 [.rw 0, .rw 1, .rw 2, .rw 3, .rw 4, .sc (.i .i64 b5_5)]), (6, .rows 2 (.eI y6))]⟩) ((spec_TradesOpen.j1 (k + 1) x1 x2 y6 x8 x19 l0_0 l0_1 l0_2 l0_3 l0_4 b5_5).bind fun r => some (o25 l0_0 l0_1 l0_2 l0_3 l0_4 r)) :=
  Lo.of (b := (if x19 = true then (if 0 ≤ x8 then (if x8 < (l0_4.length : Int) then (if (rd_T50 l0_4 x8).f7 = 1 then ((spec_l1In.f (rd_T50 l0_4 x8).f0 x1 x2).bind fun r12 => (if r12 = true then (if y6.length + 1 < 17592186044417 then ((spec_TradesOpen.l0 k x1 x2 (y6 ++ ([(rd_T50 l0_4 x8).f0])) (RowKit.wrap64 (x8 + 1)) l0_0 l0_1 l0_2 l0_3 l0_4 b5_5).bind fun r => some (o25 l0_0 l0_1 l0_2 l0_3 l0_4 r)) else none) else ((spec_TradesOpen.l0 k x1 x2 y6 (RowKit.wrap64 (x8 + 1)) l0_0 l0_1 l0_2 l0_3 l0_4 b5_5).bind fun r => some (o25 l0_0 l0_1 l0_2 l0_3 l0_4 r)))) else ((spec_TradesOpen.l0 k x1 x2 y6 (RowKit.wrap64 (x8 + 1)) l0_0 l0_1 l0_2 l0_3 l0_4 b5_5).bind fun r => some (o25 l0_0 l0_1 l0_2 l0_3 l0_4 r))) else none) else none) else (some (o25 l0_0 l0_1 l0_2 l0_3 l0_4 y6)))) (by kernel_rfl) (by
    rw [spec_TradesOpen.j1]
    repeat' first
    | with_reducible exact none_L
    | with_reducible refine letB_L (fun _ _ => ?_)
    | with_reducible refine bind_L (fun _ => ?_)
    | with_reducible refine ite_L (fun _ => ?_) (fun _ => ?_)
    | with_reducible refine drop_L (by first | assumption | omega | (simp only [*, List.length_set]; done)) ?_
    | with_reducible refine let_L ?_
    | with_reducible refine some_L ?_
    | with_reducible refine letT_L ?_
    | with_reducible refine ite_I (by omega) (fun _ => ?_) (fun _ => ?_)
    | rfl
    | simp only [Bool.decide_eq_true]
    | exact Lo.refl _
    | (refine Lo.eq ?_; simp only [Bool.decide_eq_true]; done)
    | refine ite_L (fun _ => ?_) (fun _ => ?_))
theorem h25_1 (k : Nat) (st : St Rw) (out : Out Rw) (h : C25_1 (k + 1) st = some out) : seg Try.prog O25 K25 k (body Try.f25) (kEnd Try.prog Try.f25.results.toList) [true, false, false, false, true, false, true, true] st = some out := by
  unfold C25_1 at h
  split at h
  · exact e25_1 _ _ _ _ _ _ _ _ _ _ _ _ out h
  · cases h
theorem z25_ok : ∀ c ∈ K25, ∀ st, c.f 0 st = none := by
  intro c hc st
  simp only [K25, List.mem_cons, List.not_mem_nil, or_false] at hc
  rcases hc with rfl | rfl
  · show C25_0 0 st = none; unfold C25_0; split <;> rfl
  · show C25_1 0 st = none; unfold C25_1; split <;> rfl
theorem h25_ok : ∀ c ∈ K25, ∀ k st out, c.f (k + 1) st = some out → seg Try.prog O25 K25 k (body Try.f25) (kEnd Try.prog Try.f25.results.toList) c.p st = some out := by
  intro c hc k st out h
  simp only [K25, List.mem_cons, List.not_mem_nil, or_false] at hc
  rcases hc with rfl | rfl
  · exact h25_0 k st out h
  · exact h25_1 k st out h
theorem g25 (k : Nat) (l0_0 : List (S88)) (l0_1 : List (S90)) (l0_2 : List (S93)) (l0_3 : List (S96)) (l0_4 : List (S50)) (a0_5 : Int) (a1 : Int) (a2 : Int) (r : List Int) (h : spec_TradesOpen.f k l0_0 l0_1 l0_2 l0_3 l0_4 a0_5 a1 a2 = some r) : Good Try.prog 25 [.w (.ag [.rw 0, .rw 1, .rw 2, .rw 3, .rw 4, .sc (.i .i64 a0_5)]), .w (.c (.sc (.i .i64 a1))), .w (.c (.sc (.i .i64 a2)))] [.rows 0 (.e88 l0_0), .rows 0 (.e90 l0_1), .rows 0 (.e93 l0_2), .rows 0 (.e96 l0_3), .rows 0 (.e50 l0_4)] (o25 l0_0 l0_1 l0_2 l0_3 l0_4 r) := by
  refine fn_ok (k := k) O25_ok mixed Try.func25 (root := body Try.f25) (by kernel_rfl) z25_ok h25_ok ?_
  refine Lo.of (b := ((spec_TradesOpen.l0 k a1 a2 ([]) 0 l0_0 l0_1 l0_2 l0_3 l0_4 a0_5).bind fun r => some (o25 l0_0 l0_1 l0_2 l0_3 l0_4 r))) (c := (spec_TradesOpen.f k l0_0 l0_1 l0_2 l0_3 l0_4 a0_5 a1 a2).bind fun r => some (o25 l0_0 l0_1 l0_2 l0_3 l0_4 r)) (by kernel_rfl) ?_ _ (by rw [h]; rfl)
  · unfold spec_TradesOpen.f
    repeat' first
    | with_reducible exact none_L
    | with_reducible refine letB_L (fun _ _ => ?_)
    | with_reducible refine bind_L (fun _ => ?_)
    | with_reducible refine ite_L (fun _ => ?_) (fun _ => ?_)
    | with_reducible refine drop_L (by first | assumption | omega | (simp only [*, List.length_set]; done)) ?_
    | with_reducible refine let_L ?_
    | with_reducible refine some_L ?_
    | with_reducible refine letT_L ?_
    | with_reducible refine ite_I (by omega) (fun _ => ?_) (fun _ => ?_)
    | rfl
    | simp only [Bool.decide_eq_true]
    | exact Lo.refl _
    | (refine Lo.eq ?_; simp only [Bool.decide_eq_true]; done)
    | refine ite_L (fun _ => ?_) (fun _ => ?_)
theorem d25 : Sound Try.prog ⟨25, false, Q25⟩ := sound_of ⟨_, Try.func25, by kernel_rfl, by kernel_rfl⟩ fun k args hp Z K z h => by
  unfold Q25 at h
  split at h
  · obtain ⟨r, hr, hK⟩ := Option.bind_eq_some_iff.1 h
    exact ⟨_, hK, g25 k _ _ _ _ _ _ _ _ r hr⟩
  · cases h
def o35 (r : Bool) : Out Rw := ⟨[.c (.sc (.b r))], []⟩
def Q35 : Mean Rw := fun k a h Z K => match a, h with
  | [.w (.c (.sc (.i .i64 a0))), .w (.c (.sc (.i .i64 a1))), .w (.c (.sc (.i .i64 a2)))], [] => (impl_in.f a0 a1 a2).bind fun r => K (o35 r)
  | _, _ => none
def O35 : List (Cal Rw) := []
theorem O35_ok : ∀ c ∈ O35, Sound Try.prog c := by
  intro c hc
  simp only [O35, List.mem_cons, List.not_mem_nil, or_false] at hc
def K35 : List (Cut Rw) := []
theorem z35_ok : ∀ c ∈ K35, ∀ st, c.f 0 st = none := by
  intro c hc st
  simp only [K35, List.mem_cons, List.not_mem_nil, or_false] at hc
theorem h35_ok : ∀ c ∈ K35, ∀ k st out, c.f (k + 1) st = some out → seg Try.prog O35 K35 k (body Try.f35) (kEnd Try.prog Try.f35.results.toList) c.p st = some out := by
  intro c hc k st out h
  simp only [K35, List.mem_cons, List.not_mem_nil, or_false] at hc
theorem g35 (k : Nat) (a0 : Int) (a1 : Int) (a2 : Int) (r : Bool) (h : impl_in.f a0 a1 a2 = some r) : Good Try.prog 35 [.w (.c (.sc (.i .i64 a0))), .w (.c (.sc (.i .i64 a1))), .w (.c (.sc (.i .i64 a2)))] [] (o35 r) := by
  refine fn_ok (k := k) O35_ok mixed Try.func35 (root := body Try.f35) (by kernel_rfl) z35_ok h35_ok ?_
  refine Lo.of (b := (if a0 ≥ a1 then (some (o35 (decide (a0 ≤ a2)))) else (some (o35 false)))) (c := (impl_in.f a0 a1 a2).bind fun r => some (o35 r)) (by kernel_rfl) ?_ _ (by rw [h]; rfl)
  · unfold impl_in.f
    repeat' first
    | with_reducible exact none_L
    | with_reducible refine letB_L (fun _ _ => ?_)
    | with_reducible refine bind_L (fun _ => ?_)
    | with_reducible refine ite_L (fun _ => ?_) (fun _ => ?_)
    | with_reducible refine drop_L (by first | assumption | omega | (simp only [*, List.length_set]; done)) ?_
    | with_reducible refine let_L ?_
    | with_reducible refine some_L ?_
    | with_reducible refine letT_L ?_
    | with_reducible refine ite_I (by omega) (fun _ => ?_) (fun _ => ?_)
    | rfl
    | simp only [Bool.decide_eq_true]
    | exact Lo.refl _
    | (refine Lo.eq ?_; simp only [Bool.decide_eq_true]; done)
    | refine ite_L (fun _ => ?_) (fun _ => ?_)
theorem d35 : Sound Try.prog ⟨35, false, Q35⟩ := sound_of ⟨_, Try.func35, by kernel_rfl, by kernel_rfl⟩ fun k args hp Z K z h => by
  unfold Q35 at h
  split at h
  · obtain ⟨r, hr, hK⟩ := Option.bind_eq_some_iff.1 h
    exact ⟨_, hK, g35 k _ _ _ r hr⟩
  · cases h
def o34 (r : Bool) : Out Rw := ⟨[.c (.sc (.b r))], []⟩
def Q34 : Mean Rw := fun k a h Z K => match a, h with
  | [.w (.c (.sc (.i .i64 a0)))], [] => (impl_isNo.f a0).bind fun r => K (o34 r)
  | _, _ => none
def O34 : List (Cal Rw) := [⟨35, false, Q35⟩]
theorem O34_ok : ∀ c ∈ O34, Sound Try.prog c := by
  intro c hc
  simp only [O34, List.mem_cons, List.not_mem_nil, or_false] at hc
  rcases hc with rfl
  · exact d35
def K34 : List (Cut Rw) := []
theorem z34_ok : ∀ c ∈ K34, ∀ st, c.f 0 st = none := by
  intro c hc st
  simp only [K34, List.mem_cons, List.not_mem_nil, or_false] at hc
theorem h34_ok : ∀ c ∈ K34, ∀ k st out, c.f (k + 1) st = some out → seg Try.prog O34 K34 k (body Try.f34) (kEnd Try.prog Try.f34.results.toList) c.p st = some out := by
  intro c hc k st out h
  simp only [K34, List.mem_cons, List.not_mem_nil, or_false] at hc
theorem g34 (k : Nat) (a0 : Int) (r : Bool) (h : impl_isNo.f a0 = some r) : Good Try.prog 34 [.w (.c (.sc (.i .i64 a0)))] [] (o34 r) := by
  refine fn_ok (k := k) O34_ok mixed Try.func34 (root := body Try.f34) (by kernel_rfl) z34_ok h34_ok ?_
  refine Lo.of (b := ((impl_in.f a0 1 1000).bind fun r2 => (some (o34 r2)))) (c := (impl_isNo.f a0).bind fun r => some (o34 r)) (by kernel_rfl) ?_ _ (by rw [h]; rfl)
  · unfold impl_isNo.f
    repeat' first
    | with_reducible exact none_L
    | with_reducible refine letB_L (fun _ _ => ?_)
    | with_reducible refine bind_L (fun _ => ?_)
    | with_reducible refine ite_L (fun _ => ?_) (fun _ => ?_)
    | with_reducible refine drop_L (by first | assumption | omega | (simp only [*, List.length_set]; done)) ?_
    | with_reducible refine let_L ?_
    | with_reducible refine some_L ?_
    | with_reducible refine letT_L ?_
    | with_reducible refine ite_I (by omega) (fun _ => ?_) (fun _ => ?_)
    | rfl
    | simp only [Bool.decide_eq_true]
    | exact Lo.refl _
    | (refine Lo.eq ?_; simp only [Bool.decide_eq_true]; done)
    | refine ite_L (fun _ => ?_) (fun _ => ?_)
theorem d34 : Sound Try.prog ⟨34, false, Q34⟩ := sound_of ⟨_, Try.func34, by kernel_rfl, by kernel_rfl⟩ fun k args hp Z K z h => by
  unfold Q34 at h
  split at h
  · obtain ⟨r, hr, hK⟩ := Option.bind_eq_some_iff.1 h
    exact ⟨_, hK, g34 k _ r hr⟩
  · cases h
def o66 (l0 : List S88) (r : Bool) : Out Rw := ⟨[.c (.sc (.b r))], [.rows 0 (.e88 l0)]⟩
def Q66 : Mean Rw := fun k a h Z K => match a, h with
  | [.w (.c (.rw 0))], [.rows 0 (.e88 l0)] => (impl_AccountsOk.f k l0).bind fun r => K (o66 l0 r)
  | _, _ => none
def O66 : List (Cal Rw) := [⟨34, false, Q34⟩, ⟨35, false, Q35⟩]
theorem O66_ok : ∀ c ∈ O66, Sound Try.prog c := by
  intro c hc
  simp only [O66, List.mem_cons, List.not_mem_nil, or_false] at hc
  rcases hc with rfl | rfl
  · exact d34
  · exact d35
def C66_0 : Nat → St Rw → Option (Out Rw) := fun k st => match st with
  | ⟨41, 1, 1, [(0, .w (.c (.rw 0))), (5, .w (.c (.rw 0))), (6, .w (.c (.sc (.i .i64 x6)))), (7, .w (.c (.sc (.i .i64 x7))))], [(0, .rows 0 (.e88 l0))]⟩ => (impl_AccountsOk.l0 k l0 l0 x6 x7).bind fun r => some (o66 l0 r)
  | _ => none
def K66 : List (Cut Rw) := [⟨[false, true, false, true], [0, 5, 6, 7], C66_0⟩]
theorem e66_0 (k : Nat) (x6 : Int) (x7 : Int) (l0 : List S88) : Lo (seg Try.prog O66 K66 k (body Try.f66) (kEnd Try.prog Try.f66.results.toList) [false, true, false, true] ⟨41, 1, 1, [(0, .w (.c (.rw 0))), (5, .w (.c (.rw 0))), (6, .w (.c (.sc (.i .i64 x6)))), (7, .w (.c (.sc (.i .i64 x7))))], [(0, .rows 0 (.e88 l0))]⟩) ((impl_AccountsOk.l0 (k + 1) l0 l0 x6 x7).bind fun r => some (o66 l0 r)) :=
  Lo.of (b := (if x7 < x6 then (if 0 ≤ x7 then (if x7 < (l0.length : Int) then ((impl_isNo.f (rd_T88 l0 x7).f0).bind fun r4 => (if r4 = true then ((impl_in.f (rd_T88 l0 x7).f1 1 4).bind fun r5 => (if r5 = true then (if x7 > 0 then (if 0 ≤ RowKit.wrap64 (x7 - 1) then (if RowKit.wrap64 (x7 - 1) < (l0.length : Int) then (if (rd_T88 l0 (RowKit.wrap64 (x7 - 1))).f0 ≥ (rd_T88 l0 x7).f0 then (some (o66 l0 false)) else ((impl_AccountsOk.l0 k l0 l0 x6 (RowKit.wrap64 (x7 + 1))).bind fun r => some (o66 l0 r))) else none) else none) else ((impl_AccountsOk.l0 k l0 l0 x6 (RowKit.wrap64 (x7 + 1))).bind fun r => some (o66 l0 r))) else (some (o66 l0 false)))) else (some (o66 l0 false)))) else none) else none) else (some (o66 l0 (decide ((l0.length : Int) ≤ 20)))))) (by kernel_rfl) (by
    rw [impl_AccountsOk.l0]
    repeat' first
    | with_reducible exact none_L
    | with_reducible refine letB_L (fun _ _ => ?_)
    | with_reducible refine bind_L (fun _ => ?_)
    | with_reducible refine ite_L (fun _ => ?_) (fun _ => ?_)
    | with_reducible refine drop_L (by first | assumption | omega | (simp only [*, List.length_set]; done)) ?_
    | with_reducible refine let_L ?_
    | with_reducible refine some_L ?_
    | with_reducible refine letT_L ?_
    | with_reducible refine ite_I (by omega) (fun _ => ?_) (fun _ => ?_)
    | rfl
    | simp only [Bool.decide_eq_true]
    | exact Lo.refl _
    | (refine Lo.eq ?_; simp only [Bool.decide_eq_true]; done)
    | refine ite_L (fun _ => ?_) (fun _ => ?_))
theorem h66_0 (k : Nat) (st : St Rw) (out : Out Rw) (h : C66_0 (k + 1) st = some out) : seg Try.prog O66 K66 k (body Try.f66) (kEnd Try.prog Try.f66.results.toList) [false, true, false, true] st = some out := by
  unfold C66_0 at h
  split at h
  · exact e66_0 _ _ _ _ out h
  · cases h
theorem z66_ok : ∀ c ∈ K66, ∀ st, c.f 0 st = none := by
  intro c hc st
  simp only [K66, List.mem_cons, List.not_mem_nil, or_false] at hc
  rcases hc with rfl
  · show C66_0 0 st = none; unfold C66_0; split <;> rfl
theorem h66_ok : ∀ c ∈ K66, ∀ k st out, c.f (k + 1) st = some out → seg Try.prog O66 K66 k (body Try.f66) (kEnd Try.prog Try.f66.results.toList) c.p st = some out := by
  intro c hc k st out h
  simp only [K66, List.mem_cons, List.not_mem_nil, or_false] at hc
  rcases hc with rfl
  · exact h66_0 k st out h
theorem g66 (k : Nat) (l0 : List (S88)) (r : Bool) (h : impl_AccountsOk.f k l0 = some r) : Good Try.prog 66 [.w (.c (.rw 0))] [.rows 0 (.e88 l0)] (o66 l0 r) := by
  refine fn_ok (k := k) O66_ok mixed Try.func66 (root := body Try.f66) (by kernel_rfl) z66_ok h66_ok ?_
  refine Lo.of (b := ((impl_AccountsOk.l0 k l0 l0 ((l0.length : Int)) 0).bind fun r => some (o66 l0 r))) (c := (impl_AccountsOk.f k l0).bind fun r => some (o66 l0 r)) (by kernel_rfl) ?_ _ (by rw [h]; rfl)
  · unfold impl_AccountsOk.f
    repeat' first
    | with_reducible exact none_L
    | with_reducible refine letB_L (fun _ _ => ?_)
    | with_reducible refine bind_L (fun _ => ?_)
    | with_reducible refine ite_L (fun _ => ?_) (fun _ => ?_)
    | with_reducible refine drop_L (by first | assumption | omega | (simp only [*, List.length_set]; done)) ?_
    | with_reducible refine let_L ?_
    | with_reducible refine some_L ?_
    | with_reducible refine letT_L ?_
    | with_reducible refine ite_I (by omega) (fun _ => ?_) (fun _ => ?_)
    | rfl
    | simp only [Bool.decide_eq_true]
    | exact Lo.refl _
    | (refine Lo.eq ?_; simp only [Bool.decide_eq_true]; done)
    | refine ite_L (fun _ => ?_) (fun _ => ?_)
theorem d66 : Sound Try.prog ⟨66, false, Q66⟩ := sound_of ⟨_, Try.func66, by kernel_rfl, by kernel_rfl⟩ fun k args hp Z K z h => by
  unfold Q66 at h
  split at h
  · obtain ⟨r, hr, hK⟩ := Option.bind_eq_some_iff.1 h
    exact ⟨_, hK, g66 k _ r hr⟩
  · cases h
def o67 (l0 : List S90) (r : Bool) : Out Rw := ⟨[.c (.sc (.b r))], [.rows 0 (.e90 l0)]⟩
def Q67 : Mean Rw := fun k a h Z K => match a, h with
  | [.w (.c (.rw 0))], [.rows 0 (.e90 l0)] => (impl_InstrsOk.f k l0).bind fun r => K (o67 l0 r)
  | _, _ => none
def O67 : List (Cal Rw) := [⟨34, false, Q34⟩, ⟨35, false, Q35⟩]
theorem O67_ok : ∀ c ∈ O67, Sound Try.prog c := by
  intro c hc
  simp only [O67, List.mem_cons, List.not_mem_nil, or_false] at hc
  rcases hc with rfl | rfl
  · exact d34
  · exact d35
def C67_0 : Nat → St Rw → Option (Out Rw) := fun k st => match st with
  | ⟨41, 1, 1, [(0, .w (.c (.rw 0))), (5, .w (.c (.rw 0))), (6, .w (.c (.sc (.i .i64 x6)))), (7, .w (.c (.sc (.i .i64 x7))))], [(0, .rows 0 (.e90 l0))]⟩ => (impl_InstrsOk.l0 k l0 l0 x6 x7).bind fun r => some (o67 l0 r)
  | _ => none
def K67 : List (Cut Rw) := [⟨[false, true, false, true], [0, 5, 6, 7], C67_0⟩]
theorem e67_0 (k : Nat) (x6 : Int) (x7 : Int) (l0 : List S90) : Lo (seg Try.prog O67 K67 k (body Try.f67) (kEnd Try.prog Try.f67.results.toList) [false, true, false, true] ⟨41, 1, 1, [(0, .w (.c (.rw 0))), (5, .w (.c (.rw 0))), (6, .w (.c (.sc (.i .i64 x6)))), (7, .w (.c (.sc (.i .i64 x7))))], [(0, .rows 0 (.e90 l0))]⟩) ((impl_InstrsOk.l0 (k + 1) l0 l0 x6 x7).bind fun r => some (o67 l0 r)) :=
  Lo.of (b := (if x7 < x6 then (if 0 ≤ x7 then (if x7 < (l0.length : Int) then ((impl_isNo.f (rd_T90 l0 x7).f0).bind fun r4 => (if r4 = true then ((impl_in.f (rd_T90 l0 x7).f1 1 2).bind fun r5 => (if r5 = true then (if x7 > 0 then (if 0 ≤ RowKit.wrap64 (x7 - 1) then (if RowKit.wrap64 (x7 - 1) < (l0.length : Int) then (if (rd_T90 l0 (RowKit.wrap64 (x7 - 1))).f0 ≥ (rd_T90 l0 x7).f0 then (some (o67 l0 false)) else ((impl_InstrsOk.l0 k l0 l0 x6 (RowKit.wrap64 (x7 + 1))).bind fun r => some (o67 l0 r))) else none) else none) else ((impl_InstrsOk.l0 k l0 l0 x6 (RowKit.wrap64 (x7 + 1))).bind fun r => some (o67 l0 r))) else (some (o67 l0 false)))) else (some (o67 l0 false)))) else none) else none) else (some (o67 l0 (decide ((l0.length : Int) ≤ 8)))))) (by kernel_rfl) (by
    rw [impl_InstrsOk.l0]
    repeat' first
    | with_reducible exact none_L
    | with_reducible refine letB_L (fun _ _ => ?_)
    | with_reducible refine bind_L (fun _ => ?_)
    | with_reducible refine ite_L (fun _ => ?_) (fun _ => ?_)
    | with_reducible refine drop_L (by first | assumption | omega | (simp only [*, List.length_set]; done)) ?_
    | with_reducible refine let_L ?_
    | with_reducible refine some_L ?_
    | with_reducible refine letT_L ?_
    | with_reducible refine ite_I (by omega) (fun _ => ?_) (fun _ => ?_)
    | rfl
    | simp only [Bool.decide_eq_true]
    | exact Lo.refl _
    | (refine Lo.eq ?_; simp only [Bool.decide_eq_true]; done)
    | refine ite_L (fun _ => ?_) (fun _ => ?_))
theorem h67_0 (k : Nat) (st : St Rw) (out : Out Rw) (h : C67_0 (k + 1) st = some out) : seg Try.prog O67 K67 k (body Try.f67) (kEnd Try.prog Try.f67.results.toList) [false, true, false, true] st = some out := by
  unfold C67_0 at h
  split at h
  · exact e67_0 _ _ _ _ out h
  · cases h
theorem z67_ok : ∀ c ∈ K67, ∀ st, c.f 0 st = none := by
  intro c hc st
  simp only [K67, List.mem_cons, List.not_mem_nil, or_false] at hc
  rcases hc with rfl
  · show C67_0 0 st = none; unfold C67_0; split <;> rfl
theorem h67_ok : ∀ c ∈ K67, ∀ k st out, c.f (k + 1) st = some out → seg Try.prog O67 K67 k (body Try.f67) (kEnd Try.prog Try.f67.results.toList) c.p st = some out := by
  intro c hc k st out h
  simp only [K67, List.mem_cons, List.not_mem_nil, or_false] at hc
  rcases hc with rfl
  · exact h67_0 k st out h
theorem g67 (k : Nat) (l0 : List (S90)) (r : Bool) (h : impl_InstrsOk.f k l0 = some r) : Good Try.prog 67 [.w (.c (.rw 0))] [.rows 0 (.e90 l0)] (o67 l0 r) := by
  refine fn_ok (k := k) O67_ok mixed Try.func67 (root := body Try.f67) (by kernel_rfl) z67_ok h67_ok ?_
  refine Lo.of (b := ((impl_InstrsOk.l0 k l0 l0 ((l0.length : Int)) 0).bind fun r => some (o67 l0 r))) (c := (impl_InstrsOk.f k l0).bind fun r => some (o67 l0 r)) (by kernel_rfl) ?_ _ (by rw [h]; rfl)
  · unfold impl_InstrsOk.f
    repeat' first
    | with_reducible exact none_L
    | with_reducible refine letB_L (fun _ _ => ?_)
    | with_reducible refine bind_L (fun _ => ?_)
    | with_reducible refine ite_L (fun _ => ?_) (fun _ => ?_)
    | with_reducible refine drop_L (by first | assumption | omega | (simp only [*, List.length_set]; done)) ?_
    | with_reducible refine let_L ?_
    | with_reducible refine some_L ?_
    | with_reducible refine letT_L ?_
    | with_reducible refine ite_I (by omega) (fun _ => ?_) (fun _ => ?_)
    | rfl
    | simp only [Bool.decide_eq_true]
    | exact Lo.refl _
    | (refine Lo.eq ?_; simp only [Bool.decide_eq_true]; done)
    | refine ite_L (fun _ => ?_) (fun _ => ?_)
theorem d67 : Sound Try.prog ⟨67, false, Q67⟩ := sound_of ⟨_, Try.func67, by kernel_rfl, by kernel_rfl⟩ fun k args hp Z K z h => by
  unfold Q67 at h
  split at h
  · obtain ⟨r, hr, hK⟩ := Option.bind_eq_some_iff.1 h
    exact ⟨_, hK, g67 k _ r hr⟩
  · cases h
def o91 (r : Bool) : Out Rw := ⟨[.c (.sc (.b r))], []⟩
def Q91 : Mean Rw := fun k a h Z K => match a, h with
  | [.w (.c (.sc (.i .i64 a0)))], [] => (impl_AmountOk.f a0).bind fun r => K (o91 r)
  | _, _ => none
def O91 : List (Cal Rw) := [⟨35, false, Q35⟩]
theorem O91_ok : ∀ c ∈ O91, Sound Try.prog c := by
  intro c hc
  simp only [O91, List.mem_cons, List.not_mem_nil, or_false] at hc
  rcases hc with rfl
  · exact d35
def K91 : List (Cut Rw) := []
theorem z91_ok : ∀ c ∈ K91, ∀ st, c.f 0 st = none := by
  intro c hc st
  simp only [K91, List.mem_cons, List.not_mem_nil, or_false] at hc
theorem h91_ok : ∀ c ∈ K91, ∀ k st out, c.f (k + 1) st = some out → seg Try.prog O91 K91 k (body Try.f91) (kEnd Try.prog Try.f91.results.toList) c.p st = some out := by
  intro c hc k st out h
  simp only [K91, List.mem_cons, List.not_mem_nil, or_false] at hc
theorem g91 (k : Nat) (a0 : Int) (r : Bool) (h : impl_AmountOk.f a0 = some r) : Good Try.prog 91 [.w (.c (.sc (.i .i64 a0)))] [] (o91 r) := by
  refine fn_ok (k := k) O91_ok mixed Try.func91 (root := body Try.f91) (by kernel_rfl) z91_ok h91_ok ?_
  refine Lo.of (b := ((impl_in.f a0 (-1000000000000000) 1000000000000000).bind fun r2 => (some (o91 r2)))) (c := (impl_AmountOk.f a0).bind fun r => some (o91 r)) (by kernel_rfl) ?_ _ (by rw [h]; rfl)
  · unfold impl_AmountOk.f
    repeat' first
    | with_reducible exact none_L
    | with_reducible refine letB_L (fun _ _ => ?_)
    | with_reducible refine bind_L (fun _ => ?_)
    | with_reducible refine ite_L (fun _ => ?_) (fun _ => ?_)
    | with_reducible refine drop_L (by first | assumption | omega | (simp only [*, List.length_set]; done)) ?_
    | with_reducible refine let_L ?_
    | with_reducible refine some_L ?_
    | with_reducible refine letT_L ?_
    | with_reducible refine ite_I (by omega) (fun _ => ?_) (fun _ => ?_)
    | rfl
    | simp only [Bool.decide_eq_true]
    | exact Lo.refl _
    | (refine Lo.eq ?_; simp only [Bool.decide_eq_true]; done)
    | refine ite_L (fun _ => ?_) (fun _ => ?_)
theorem d91 : Sound Try.prog ⟨91, false, Q91⟩ := sound_of ⟨_, Try.func91, by kernel_rfl, by kernel_rfl⟩ fun k args hp Z K z h => by
  unfold Q91 at h
  split at h
  · obtain ⟨r, hr, hK⟩ := Option.bind_eq_some_iff.1 h
    exact ⟨_, hK, g91 k _ r hr⟩
  · cases h
def o92 (r : Int) : Out Rw := ⟨[.c (.sc (.i .i64 r))], []⟩
def Q92 : Mean Rw := fun k a h Z K => match a, h with
  | [.w (.c (.sc (.i .i64 a0))), .w (.c (.sc (.i .i64 a1))), .w (.c (.sc (.i .i64 a2))), .w (.c (.sc (.i .i64 a3)))], [] => (impl_byBoth.f k a0 a1 a2 a3).bind fun r => K (o92 r)
  | _, _ => none
def O92 : List (Cal Rw) := []
theorem O92_ok : ∀ c ∈ O92, Sound Try.prog c := by
  intro c hc
  simp only [O92, List.mem_cons, List.not_mem_nil, or_false] at hc
def C92_0 : Nat → St Rw → Option (Out Rw) := fun k st => match st with
  | ⟨32, 0, 0, [(0, .w (.c (.sc (.i .i64 x0)))), (1, .w (.c (.sc (.i .i64 x1)))), (2, .w (.c (.sc (.i .i64 x2)))), (3, .w (.c (.sc (.i .i64 x3)))), (9, .w (.c (.sc (.b x9))))], []⟩ => (impl_byBoth.j0 k x0 x1 x2 x3 x9).bind fun r => some (o92 r)
  | _ => none
def K92 : List (Cut Rw) := [⟨[true, false, false, true], [0, 1, 2, 3, 9], C92_0⟩]
theorem e92_0 (k : Nat) (x0 : Int) (x1 : Int) (x2 : Int) (x3 : Int) (x9 : Bool) : Lo (seg Try.prog O92 K92 k (body Try.f92) (kEnd Try.prog Try.f92.results.toList) [true, false, false, true] ⟨32, 0, 0, [(0, .w (.c (.sc (.i .i64 x0)))), (1, .w (.c (.sc (.i .i64 x1)))), (2, .w (.c (.sc (.i .i64 x2)))), (3, .w (.c (.sc (.i .i64 x3)))), (9, .w (.c (.sc (.b x9))))], []⟩) ((impl_byBoth.j0 (k + 1) x0 x1 x2 x3 x9).bind fun r => some (o92 r)) :=
  Lo.of (b := (if x9 = true then (some (o92 (-1))) else (if x0 = x2 then (if x1 = x3 then (some (o92 0)) else (some (o92 1))) else (some (o92 1))))) (by kernel_rfl) (by
    rw [impl_byBoth.j0]
    repeat' first
    | with_reducible exact none_L
    | with_reducible refine letB_L (fun _ _ => ?_)
    | with_reducible refine bind_L (fun _ => ?_)
    | with_reducible refine ite_L (fun _ => ?_) (fun _ => ?_)
    | with_reducible refine drop_L (by first | assumption | omega | (simp only [*, List.length_set]; done)) ?_
    | with_reducible refine let_L ?_
    | with_reducible refine some_L ?_
    | with_reducible refine letT_L ?_
    | with_reducible refine ite_I (by omega) (fun _ => ?_) (fun _ => ?_)
    | rfl
    | simp only [Bool.decide_eq_true]
    | exact Lo.refl _
    | (refine Lo.eq ?_; simp only [Bool.decide_eq_true]; done)
    | refine ite_L (fun _ => ?_) (fun _ => ?_))
theorem h92_0 (k : Nat) (st : St Rw) (out : Out Rw) (h : C92_0 (k + 1) st = some out) : seg Try.prog O92 K92 k (body Try.f92) (kEnd Try.prog Try.f92.results.toList) [true, false, false, true] st = some out := by
  unfold C92_0 at h
  split at h
  · exact e92_0 _ _ _ _ _ _ out h
  · cases h
theorem z92_ok : ∀ c ∈ K92, ∀ st, c.f 0 st = none := by
  intro c hc st
  simp only [K92, List.mem_cons, List.not_mem_nil, or_false] at hc
  rcases hc with rfl
  · show C92_0 0 st = none; unfold C92_0; split <;> rfl
theorem h92_ok : ∀ c ∈ K92, ∀ k st out, c.f (k + 1) st = some out → seg Try.prog O92 K92 k (body Try.f92) (kEnd Try.prog Try.f92.results.toList) c.p st = some out := by
  intro c hc k st out h
  simp only [K92, List.mem_cons, List.not_mem_nil, or_false] at hc
  rcases hc with rfl
  · exact h92_0 k st out h
theorem g92 (k : Nat) (a0 : Int) (a1 : Int) (a2 : Int) (a3 : Int) (r : Int) (h : impl_byBoth.f k a0 a1 a2 a3 = some r) : Good Try.prog 92 [.w (.c (.sc (.i .i64 a0))), .w (.c (.sc (.i .i64 a1))), .w (.c (.sc (.i .i64 a2))), .w (.c (.sc (.i .i64 a3)))] [] (o92 r) := by
  refine fn_ok (k := k) O92_ok mixed Try.func92 (root := body Try.f92) (by kernel_rfl) z92_ok h92_ok ?_
  refine Lo.of (b := (if a0 < a2 then ((impl_byBoth.j0 k a0 a1 a2 a3 true).bind fun r => some (o92 r)) else (if a0 = a2 then ((impl_byBoth.j0 k a0 a1 a2 a3 (decide (a1 < a3))).bind fun r => some (o92 r)) else ((impl_byBoth.j0 k a0 a1 a2 a3 false).bind fun r => some (o92 r))))) (c := (impl_byBoth.f k a0 a1 a2 a3).bind fun r => some (o92 r)) (by kernel_rfl) ?_ _ (by rw [h]; rfl)
  · unfold impl_byBoth.f
    repeat' first
    | with_reducible exact none_L
    | with_reducible refine letB_L (fun _ _ => ?_)
    | with_reducible refine bind_L (fun _ => ?_)
    | with_reducible refine ite_L (fun _ => ?_) (fun _ => ?_)
    | with_reducible refine drop_L (by first | assumption | omega | (simp only [*, List.length_set]; done)) ?_
    | with_reducible refine let_L ?_
    | with_reducible refine some_L ?_
    | with_reducible refine letT_L ?_
    | with_reducible refine ite_I (by omega) (fun _ => ?_) (fun _ => ?_)
    | rfl
    | simp only [Bool.decide_eq_true]
    | exact Lo.refl _
    | (refine Lo.eq ?_; simp only [Bool.decide_eq_true]; done)
    | refine ite_L (fun _ => ?_) (fun _ => ?_)
theorem d92 : Sound Try.prog ⟨92, false, Q92⟩ := sound_of ⟨_, Try.func92, by kernel_rfl, by kernel_rfl⟩ fun k args hp Z K z h => by
  unfold Q92 at h
  split at h
  · obtain ⟨r, hr, hK⟩ := Option.bind_eq_some_iff.1 h
    exact ⟨_, hK, g92 k _ _ _ _ r hr⟩
  · cases h
end Go.Proofs.Ytmfgajbkcnlkcaa.AI
namespace Go.Proofs.Ytmfgajbkcnlkcaa.AI
open Go Go.RowKit Go.Proofs.YtmfgajbkcnlkcaaW.PrintWords Go.Proofs.Ytmfgajbkcnlkcaa.P
set_option linter.unusedVariables false
set_option linter.all false
set_option maxRecDepth 100000
def o68 (l0 : List S93) (r : Bool) : Out Rw := ⟨[.c (.sc (.b r))], [.rows 0 (.e93 l0)]⟩
def Q68 : Mean Rw := fun k a h Z K => match a, h with
  | [.w (.c (.rw 0))], [.rows 0 (.e93 l0)] => (impl_BalsOk.f k l0).bind fun r => K (o68 l0 r)
  | _, _ => none
def O68 : List (Cal Rw) := [⟨34, false, Q34⟩, ⟨91, false, Q91⟩, ⟨92, false, Q92⟩]
theorem O68_ok : ∀ c ∈ O68, Sound Try.prog c := by
  intro c hc
  simp only [O68, List.mem_cons, List.not_mem_nil, or_false] at hc
  rcases hc with rfl | rfl | rfl
  · exact d34
  · exact d91
  · exact d92
def C68_0 : Nat → St Rw → Option (Out Rw) := fun k st => match st with
  | ⟨59, 1, 1, [(0, .w (.c (.rw 0))), (5, .w (.c (.rw 0))), (6, .w (.c (.sc (.i .i64 x6)))), (7, .w (.c (.sc (.i .i64 x7))))], [(0, .rows 0 (.e93 l0))]⟩ => (impl_BalsOk.l0 k l0 l0 x6 x7).bind fun r => some (o68 l0 r)
  | _ => none
def C68_1 : Nat → St Rw → Option (Out Rw) := fun k st => match st with
  | ⟨59, 1, 2, [(0, .w (.c (.rw 0))), (3, .w (.c (.sc (.i .i64 x3)))), (4, .pt 1 0), (5, .w (.c (.rw 0))), (6, .w (.c (.sc (.i .i64 x6)))), (7, .w (.c (.sc (.i .i64 x7)))), (32, .w (.c (.sc (.b x32))))], [(0, .rows 0 (.e93 l0)), (1, .box 93 [.sc (.i .i64 b1_0), .sc (.i .i64 b1_1), .sc (.i .i64 b1_2)])]⟩ => (impl_BalsOk.j1 k l0 x3 l0 x6 x7 x32 b1_0 b1_1 b1_2).bind fun r => some (o68 l0 r)
  | _ => none
def K68 : List (Cut Rw) := [⟨[false, true, false, true], [0, 5, 6, 7], C68_0⟩, ⟨[true, false, true, false, false, true, true, false, false, true, false, true], [0, 3, 4, 5, 6, 7, 32], C68_1⟩]
theorem e68_0 (k : Nat) (x6 : Int) (x7 : Int) (l0 : List S93) : Lo (seg Try.prog O68 K68 k (body Try.f68) (kEnd Try.prog Try.f68.results.toList) [false, true, false, true] ⟨59, 1, 1, [(0, .w (.c (.rw 0))), (5, .w (.c (.rw 0))), (6, .w (.c (.sc (.i .i64 x6)))), (7, .w (.c (.sc (.i .i64 x7))))], [(0, .rows 0 (.e93 l0))]⟩) ((impl_BalsOk.l0 (k + 1) l0 l0 x6 x7).bind fun r => some (o68 l0 r)) :=
  Lo.of (b := (if x7 < x6 then (if 0 ≤ x7 then (if x7 < (l0.length : Int) then ((impl_isNo.f (rd_T93 l0 x7).f0).bind fun r4 => (if r4 = true then ((impl_isNo.f (rd_T93 l0 x7).f1).bind fun r5 => (if r5 = true then ((impl_AmountOk.f (rd_T93 l0 x7).f2).bind fun r6 => (if r6 = true then ((impl_BalsOk.j1 k l0 x7 l0 x6 x7 (decide ((rd_T93 l0 x7).f2 = 0)) ((rd_T93 l0 x7).f0) ((rd_T93 l0 x7).f1) ((rd_T93 l0 x7).f2)).bind fun r => some (o68 l0 r)) else ((impl_BalsOk.j1 k l0 x7 l0 x6 x7 true ((rd_T93 l0 x7).f0) ((rd_T93 l0 x7).f1) ((rd_T93 l0 x7).f2)).bind fun r => some (o68 l0 r)))) else ((impl_BalsOk.j1 k l0 x7 l0 x6 x7 true ((rd_T93 l0 x7).f0) ((rd_T93 l0 x7).f1) ((rd_T93 l0 x7).f2)).bind fun r => some (o68 l0 r)))) else ((impl_BalsOk.j1 k l0 x7 l0 x6 x7 true ((rd_T93 l0 x7).f0) ((rd_T93 l0 x7).f1) ((rd_T93 l0 x7).f2)).bind fun r => some (o68 l0 r)))) else none) else none) else (some (o68 l0 (decide ((l0.length : Int) ≤ 160)))))) (by kernel_rfl) (by
    rw [impl_BalsOk.l0]
    repeat' first
    | with_reducible exact none_L
    | with_reducible refine letB_L (fun _ _ => ?_)
    | with_reducible refine bind_L (fun _ => ?_)
    | with_reducible refine ite_L (fun _ => ?_) (fun _ => ?_)
    | with_reducible refine drop_L (by first | assumption | omega | (simp only [*, List.length_set]; done)) ?_
    | with_reducible refine let_L ?_
    | with_reducible refine some_L ?_
    | with_reducible refine letT_L ?_
    | with_reducible refine ite_I (by omega) (fun _ => ?_) (fun _ => ?_)
    | rfl
    | simp only [Bool.decide_eq_true]
    | exact Lo.refl _
    | (refine Lo.eq ?_; simp only [Bool.decide_eq_true]; done)
    | refine ite_L (fun _ => ?_) (fun _ => ?_))
theorem h68_0 (k : Nat) (st : St Rw) (out : Out Rw) (h : C68_0 (k + 1) st = some out) : seg Try.prog O68 K68 k (body Try.f68) (kEnd Try.prog Try.f68.results.toList) [false, true, false, true] st = some out := by
  unfold C68_0 at h
  split at h
  · exact e68_0 _ _ _ _ out h
  · cases h
theorem e68_1 (k : Nat) (x3 : Int) (x6 : Int) (x7 : Int) (x32 : Bool) (l0 : List S93) (b1_0 : Int) (b1_1 : Int) (b1_2 : Int) : Lo (seg Try.prog O68 K68 k (body Try.f68) (kEnd Try.prog Try.f68.results.toList) [true, false, true, false, false, true, true, false, false, true, false, true] ⟨59, 1, 2, [(0, .w (.c (.rw 0))), (3, .w (.c (.sc (.i .i64 x3)))), (4, .pt 1 0), (5, .w (.c (.rw 0))), (6, .w (.c (.sc (.i .i64 x6)))), (7, .w (.c (.sc (.i .i64 x7)))), (32, .w (.c (.sc (.b x32))))], [(0, .rows 0 (.e93 l0)), (1, .box 93 [.sc (.i .i64 b1_0), .sc (.i .i64 b1_1), .sc (.i .i64 b1_2)])]⟩) ((impl_BalsOk.j1 (k + 1) l0 x3 l0 x6 x7 x32 b1_0 b1_1 b1_2).bind fun r => some (o68 l0 r)) :=
  Lo.of (b := (if x32 = true then (some (o68 l0 false)) else (if x3 > 0 then (if 0 ≤ RowKit.wrap64 (x3 - 1) then (if RowKit.wrap64 (x3 - 1) < (l0.length : Int) then (if 0 ≤ RowKit.wrap64 (x3 - 1) then (if RowKit.wrap64 (x3 - 1) < (l0.length : Int) then ((impl_byBoth.f k (rd_T93 l0 (RowKit.wrap64 (x3 - 1))).f0 (rd_T93 l0 (RowKit.wrap64 (x3 - 1))).f1 b1_0 b1_1).bind fun r9 => (if r9 ≥ 0 then (some (o68 l0 false)) else ((impl_BalsOk.l0 k l0 l0 x6 (RowKit.wrap64 (x7 + 1))).bind fun r => some (o68 l0 r)))) else none) else none) else none) else none) else ((impl_BalsOk.l0 k l0 l0 x6 (RowKit.wrap64 (x7 + 1))).bind fun r => some (o68 l0 r))))) (by kernel_rfl) (by
    rw [impl_BalsOk.j1]
    repeat' first
    | with_reducible exact none_L
    | with_reducible refine letB_L (fun _ _ => ?_)
    | with_reducible refine bind_L (fun _ => ?_)
    | with_reducible refine ite_L (fun _ => ?_) (fun _ => ?_)
    | with_reducible refine drop_L (by first | assumption | omega | (simp only [*, List.length_set]; done)) ?_
    | with_reducible refine let_L ?_
    | with_reducible refine some_L ?_
    | with_reducible refine letT_L ?_
    | with_reducible refine ite_I (by omega) (fun _ => ?_) (fun _ => ?_)
    | rfl
    | simp only [Bool.decide_eq_true]
    | exact Lo.refl _
    | (refine Lo.eq ?_; simp only [Bool.decide_eq_true]; done)
    | refine ite_L (fun _ => ?_) (fun _ => ?_))
theorem h68_1 (k : Nat) (st : St Rw) (out : Out Rw) (h : C68_1 (k + 1) st = some out) : seg Try.prog O68 K68 k (body Try.f68) (kEnd Try.prog Try.f68.results.toList) [true, false, true, false, false, true, true, false, false, true, false, true] st = some out := by
  unfold C68_1 at h
  split at h
  · exact e68_1 _ _ _ _ _ _ _ _ _ out h
  · cases h
theorem z68_ok : ∀ c ∈ K68, ∀ st, c.f 0 st = none := by
  intro c hc st
  simp only [K68, List.mem_cons, List.not_mem_nil, or_false] at hc
  rcases hc with rfl | rfl
  · show C68_0 0 st = none; unfold C68_0; split <;> rfl
  · show C68_1 0 st = none; unfold C68_1; split <;> rfl
theorem h68_ok : ∀ c ∈ K68, ∀ k st out, c.f (k + 1) st = some out → seg Try.prog O68 K68 k (body Try.f68) (kEnd Try.prog Try.f68.results.toList) c.p st = some out := by
  intro c hc k st out h
  simp only [K68, List.mem_cons, List.not_mem_nil, or_false] at hc
  rcases hc with rfl | rfl
  · exact h68_0 k st out h
  · exact h68_1 k st out h
theorem g68 (k : Nat) (l0 : List (S93)) (r : Bool) (h : impl_BalsOk.f k l0 = some r) : Good Try.prog 68 [.w (.c (.rw 0))] [.rows 0 (.e93 l0)] (o68 l0 r) := by
  refine fn_ok (k := k) O68_ok mixed Try.func68 (root := body Try.f68) (by kernel_rfl) z68_ok h68_ok ?_
  refine Lo.of (b := ((impl_BalsOk.l0 k l0 l0 ((l0.length : Int)) 0).bind fun r => some (o68 l0 r))) (c := (impl_BalsOk.f k l0).bind fun r => some (o68 l0 r)) (by kernel_rfl) ?_ _ (by rw [h]; rfl)
  · unfold impl_BalsOk.f
    repeat' first
    | with_reducible exact none_L
    | with_reducible refine letB_L (fun _ _ => ?_)
    | with_reducible refine bind_L (fun _ => ?_)
    | with_reducible refine ite_L (fun _ => ?_) (fun _ => ?_)
    | with_reducible refine drop_L (by first | assumption | omega | (simp only [*, List.length_set]; done)) ?_
    | with_reducible refine let_L ?_
    | with_reducible refine some_L ?_
    | with_reducible refine letT_L ?_
    | with_reducible refine ite_I (by omega) (fun _ => ?_) (fun _ => ?_)
    | rfl
    | simp only [Bool.decide_eq_true]
    | exact Lo.refl _
    | (refine Lo.eq ?_; simp only [Bool.decide_eq_true]; done)
    | refine ite_L (fun _ => ?_) (fun _ => ?_)
theorem d68 : Sound Try.prog ⟨68, false, Q68⟩ := sound_of ⟨_, Try.func68, by kernel_rfl, by kernel_rfl⟩ fun k args hp Z K z h => by
  unfold Q68 at h
  split at h
  · obtain ⟨r, hr, hK⟩ := Option.bind_eq_some_iff.1 h
    exact ⟨_, hK, g68 k _ r hr⟩
  · cases h
def o11 (l0 : List S50) (r : Bool) : Out Rw := ⟨[.c (.sc (.b r))], [.rows 0 (.e50 l0)]⟩
def Q11 : Mean Rw := fun k a h Z K => match a, h with
  | [.w (.c (.rw 0))], [.rows 0 (.e50 l0)] => (impl_TradesOk.f k l0).bind fun r => K (o11 l0 r)
  | _, _ => none
def O11 : List (Cal Rw) := [⟨34, false, Q34⟩, ⟨35, false, Q35⟩]
theorem O11_ok : ∀ c ∈ O11, Sound Try.prog c := by
  intro c hc
  simp only [O11, List.mem_cons, List.not_mem_nil, or_false] at hc
  rcases hc with rfl | rfl
  · exact d34
  · exact d35
def C11_0 : Nat → St Rw → Option (Out Rw) := fun k st => match st with
  | ⟨82, 1, 1, [(0, .w (.c (.rw 0))), (5, .w (.c (.rw 0))), (6, .w (.c (.sc (.i .i64 x6)))), (7, .w (.c (.sc (.i .i64 x7))))], [(0, .rows 0 (.e50 l0))]⟩ => (impl_TradesOk.l0 k l0 l0 x6 x7).bind fun r => some (o11 l0 r)
  | _ => none
def C11_1 : Nat → St Rw → Option (Out Rw) := fun k st => match st with
  | ⟨82, 1, 2, [(0, .w (.c (.rw 0))), (3, .w (.c (.sc (.i .i64 x3)))), (4, .pt 1 0), (5, .w (.c (.rw 0))), (6, .w (.c (.sc (.i .i64 x6)))), (7, .w (.c (.sc (.i .i64 x7)))), (46, .w (.c (.sc (.b x46))))], [(0, .rows 0 (.e50 l0)), (1, .box 50 [.sc (.i .i64 b1_0), .sc (.i .i64 b1_1), .sc (.i .i64 b1_2), .sc (.i .i64 b1_3), .sc (.i .i64 b1_4), .sc (.i .i64 b1_5), .sc (.i .i64 b1_6), .sc (.i .i64 b1_7)])]⟩ => (impl_TradesOk.j1 k l0 x3 l0 x6 x7 x46 b1_0 b1_1 b1_2 b1_3 b1_4 b1_5 b1_6 b1_7).bind fun r => some (o11 l0 r)
  | _ => none
def K11 : List (Cut Rw) := [⟨[false, true, false, true], [0, 5, 6, 7], C11_0⟩, ⟨[true, false, true, false, false, true, true, false, false, true, false, true], [0, 3, 4, 5, 6, 7, 46], C11_1⟩]
theorem e11_0 (k : Nat) (x6 : Int) (x7 : Int) (l0 : List S50) : Lo (seg Try.prog O11 K11 k (body Try.f11) (kEnd Try.prog Try.f11.results.toList) [false, true, false, true] ⟨82, 1, 1, [(0, .w (.c (.rw 0))), (5, .w (.c (.rw 0))), (6, .w (.c (.sc (.i .i64 x6)))), (7, .w (.c (.sc (.i .i64 x7))))], [(0, .rows 0 (.e50 l0))]⟩) ((impl_TradesOk.l0 (k + 1) l0 l0 x6 x7).bind fun r => some (o11 l0 r)) :=
  Lo.of (b := (if x7 < x6 then (if 0 ≤ x7 then (if x7 < (l0.length : Int) then ((impl_isNo.f (rd_T50 l0 x7).f0).bind fun r4 => (if r4 = true then ((impl_isNo.f (rd_T50 l0 x7).f1).bind fun r5 => (if r5 = true then ((impl_isNo.f (rd_T50 l0 x7).f2).bind fun r6 => (if r6 = true then ((impl_isNo.f (rd_T50 l0 x7).f3).bind fun r7 => (if r7 = true then ((impl_isNo.f (rd_T50 l0 x7).f5).bind fun r8 => (if r8 = true then ((impl_TradesOk.j1 k l0 x7 l0 x6 x7 (decide ((rd_T50 l0 x7).f1 = (rd_T50 l0 x7).f2)) ((rd_T50 l0 x7).f0) ((rd_T50 l0 x7).f1) ((rd_T50 l0 x7).f2) ((rd_T50 l0 x7).f3) ((rd_T50 l0 x7).f4) ((rd_T50 l0 x7).f5) ((rd_T50 l0 x7).f6) ((rd_T50 l0 x7).f7)).bind fun r => some (o11 l0 r)) else ((impl_TradesOk.j1 k l0 x7 l0 x6 x7 true ((rd_T50 l0 x7).f0) ((rd_T50 l0 x7).f1) ((rd_T50 l0 x7).f2) ((rd_T50 l0 x7).f3) ((rd_T50 l0 x7).f4) ((rd_T50 l0 x7).f5) ((rd_T50 l0 x7).f6) ((rd_T50 l0 x7).f7)).bind fun r => some (o11 l0 r)))) else ((impl_TradesOk.j1 k l0 x7 l0 x6 x7 true ((rd_T50 l0 x7).f0) ((rd_T50 l0 x7).f1) ((rd_T50 l0 x7).f2) ((rd_T50 l0 x7).f3) ((rd_T50 l0 x7).f4) ((rd_T50 l0 x7).f5) ((rd_T50 l0 x7).f6) ((rd_T50 l0 x7).f7)).bind fun r => some (o11 l0 r)))) else ((impl_TradesOk.j1 k l0 x7 l0 x6 x7 true ((rd_T50 l0 x7).f0) ((rd_T50 l0 x7).f1) ((rd_T50 l0 x7).f2) ((rd_T50 l0 x7).f3) ((rd_T50 l0 x7).f4) ((rd_T50 l0 x7).f5) ((rd_T50 l0 x7).f6) ((rd_T50 l0 x7).f7)).bind fun r => some (o11 l0 r)))) else ((impl_TradesOk.j1 k l0 x7 l0 x6 x7 true ((rd_T50 l0 x7).f0) ((rd_T50 l0 x7).f1) ((rd_T50 l0 x7).f2) ((rd_T50 l0 x7).f3) ((rd_T50 l0 x7).f4) ((rd_T50 l0 x7).f5) ((rd_T50 l0 x7).f6) ((rd_T50 l0 x7).f7)).bind fun r => some (o11 l0 r)))) else ((impl_TradesOk.j1 k l0 x7 l0 x6 x7 true ((rd_T50 l0 x7).f0) ((rd_T50 l0 x7).f1) ((rd_T50 l0 x7).f2) ((rd_T50 l0 x7).f3) ((rd_T50 l0 x7).f4) ((rd_T50 l0 x7).f5) ((rd_T50 l0 x7).f6) ((rd_T50 l0 x7).f7)).bind fun r => some (o11 l0 r)))) else none) else none) else (some (o11 l0 (decide ((l0.length : Int) ≤ 30)))))) (by kernel_rfl) (by
    rw [impl_TradesOk.l0]
    repeat' first
    | with_reducible exact none_L
    | with_reducible refine letB_L (fun _ _ => ?_)
    | with_reducible refine bind_L (fun _ => ?_)
    | with_reducible refine ite_L (fun _ => ?_) (fun _ => ?_)
    | with_reducible refine drop_L (by first | assumption | omega | (simp only [*, List.length_set]; done)) ?_
    | with_reducible refine let_L ?_
    | with_reducible refine some_L ?_
    | with_reducible refine letT_L ?_
    | with_reducible refine ite_I (by omega) (fun _ => ?_) (fun _ => ?_)
    | rfl
    | simp only [Bool.decide_eq_true]
    | exact Lo.refl _
    | (refine Lo.eq ?_; simp only [Bool.decide_eq_true]; done)
    | refine ite_L (fun _ => ?_) (fun _ => ?_))
theorem h11_0 (k : Nat) (st : St Rw) (out : Out Rw) (h : C11_0 (k + 1) st = some out) : seg Try.prog O11 K11 k (body Try.f11) (kEnd Try.prog Try.f11.results.toList) [false, true, false, true] st = some out := by
  unfold C11_0 at h
  split at h
  · exact e11_0 _ _ _ _ out h
  · cases h
theorem e11_1 (k : Nat) (x3 : Int) (x6 : Int) (x7 : Int) (x46 : Bool) (l0 : List S50) (b1_0 : Int) (b1_1 : Int) (b1_2 : Int) (b1_3 : Int) (b1_4 : Int) (b1_5 : Int) (b1_6 : Int) (b1_7 : Int) : Lo (seg Try.prog O11 K11 k (body Try.f11) (kEnd Try.prog Try.f11.results.toList) [true, false, true, false, false, true, true, false, false, true, false, true] ⟨82, 1, 2, [(0, .w (.c (.rw 0))), (3, .w (.c (.sc (.i .i64 x3)))), (4, .pt 1 0), (5, .w (.c (.rw 0))), (6, .w (.c (.sc (.i .i64 x6)))), (7, .w (.c (.sc (.i .i64 x7)))), (46, .w (.c (.sc (.b x46))))], [(0, .rows 0 (.e50 l0)), (1, .box 50 [.sc (.i .i64 b1_0), .sc (.i .i64 b1_1), .sc (.i .i64 b1_2), .sc (.i .i64 b1_3), .sc (.i .i64 b1_4), .sc (.i .i64 b1_5), .sc (.i .i64 b1_6), .sc (.i .i64 b1_7)])]⟩) ((impl_TradesOk.j1 (k + 1) l0 x3 l0 x6 x7 x46 b1_0 b1_1 b1_2 b1_3 b1_4 b1_5 b1_6 b1_7).bind fun r => some (o11 l0 r)) :=
  Lo.of (b := (if x46 = true then (some (o11 l0 false)) else ((impl_in.f b1_4 1 1000000000000000).bind fun r14 => (if r14 = true then ((impl_in.f b1_6 0 1000000000000000).bind fun r15 => (if r15 = true then ((impl_in.f b1_7 1 3).bind fun r16 => (if r16 = true then (if x3 > 0 then (if 0 ≤ RowKit.wrap64 (x3 - 1) then (if RowKit.wrap64 (x3 - 1) < (l0.length : Int) then (if (rd_T50 l0 (RowKit.wrap64 (x3 - 1))).f0 ≥ b1_0 then (some (o11 l0 false)) else ((impl_TradesOk.l0 k l0 l0 x6 (RowKit.wrap64 (x7 + 1))).bind fun r => some (o11 l0 r))) else none) else none) else ((impl_TradesOk.l0 k l0 l0 x6 (RowKit.wrap64 (x7 + 1))).bind fun r => some (o11 l0 r))) else (some (o11 l0 false)))) else (some (o11 l0 false)))) else (some (o11 l0 false)))))) (by kernel_rfl) (by
    rw [impl_TradesOk.j1]
    repeat' first
    | with_reducible exact none_L
    | with_reducible refine letB_L (fun _ _ => ?_)
    | with_reducible refine bind_L (fun _ => ?_)
    | with_reducible refine ite_L (fun _ => ?_) (fun _ => ?_)
    | with_reducible refine drop_L (by first | assumption | omega | (simp only [*, List.length_set]; done)) ?_
    | with_reducible refine let_L ?_
    | with_reducible refine some_L ?_
    | with_reducible refine letT_L ?_
    | with_reducible refine ite_I (by omega) (fun _ => ?_) (fun _ => ?_)
    | rfl
    | simp only [Bool.decide_eq_true]
    | exact Lo.refl _
    | (refine Lo.eq ?_; simp only [Bool.decide_eq_true]; done)
    | refine ite_L (fun _ => ?_) (fun _ => ?_))
theorem h11_1 (k : Nat) (st : St Rw) (out : Out Rw) (h : C11_1 (k + 1) st = some out) : seg Try.prog O11 K11 k (body Try.f11) (kEnd Try.prog Try.f11.results.toList) [true, false, true, false, false, true, true, false, false, true, false, true] st = some out := by
  unfold C11_1 at h
  split at h
  · exact e11_1 _ _ _ _ _ _ _ _ _ _ _ _ _ _ out h
  · cases h
theorem z11_ok : ∀ c ∈ K11, ∀ st, c.f 0 st = none := by
  intro c hc st
  simp only [K11, List.mem_cons, List.not_mem_nil, or_false] at hc
  rcases hc with rfl | rfl
  · show C11_0 0 st = none; unfold C11_0; split <;> rfl
  · show C11_1 0 st = none; unfold C11_1; split <;> rfl
theorem h11_ok : ∀ c ∈ K11, ∀ k st out, c.f (k + 1) st = some out → seg Try.prog O11 K11 k (body Try.f11) (kEnd Try.prog Try.f11.results.toList) c.p st = some out := by
  intro c hc k st out h
  simp only [K11, List.mem_cons, List.not_mem_nil, or_false] at hc
  rcases hc with rfl | rfl
  · exact h11_0 k st out h
  · exact h11_1 k st out h
theorem g11 (k : Nat) (l0 : List (S50)) (r : Bool) (h : impl_TradesOk.f k l0 = some r) : Good Try.prog 11 [.w (.c (.rw 0))] [.rows 0 (.e50 l0)] (o11 l0 r) := by
  refine fn_ok (k := k) O11_ok mixed Try.func11 (root := body Try.f11) (by kernel_rfl) z11_ok h11_ok ?_
  refine Lo.of (b := ((impl_TradesOk.l0 k l0 l0 ((l0.length : Int)) 0).bind fun r => some (o11 l0 r))) (c := (impl_TradesOk.f k l0).bind fun r => some (o11 l0 r)) (by kernel_rfl) ?_ _ (by rw [h]; rfl)
  · unfold impl_TradesOk.f
    repeat' first
    | with_reducible exact none_L
    | with_reducible refine letB_L (fun _ _ => ?_)
    | with_reducible refine bind_L (fun _ => ?_)
    | with_reducible refine ite_L (fun _ => ?_) (fun _ => ?_)
    | with_reducible refine drop_L (by first | assumption | omega | (simp only [*, List.length_set]; done)) ?_
    | with_reducible refine let_L ?_
    | with_reducible refine some_L ?_
    | with_reducible refine letT_L ?_
    | with_reducible refine ite_I (by omega) (fun _ => ?_) (fun _ => ?_)
    | rfl
    | simp only [Bool.decide_eq_true]
    | exact Lo.refl _
    | (refine Lo.eq ?_; simp only [Bool.decide_eq_true]; done)
    | refine ite_L (fun _ => ?_) (fun _ => ?_)
theorem d11 : Sound Try.prog ⟨11, false, Q11⟩ := sound_of ⟨_, Try.func11, by kernel_rfl, by kernel_rfl⟩ fun k args hp Z K z h => by
  unfold Q11 at h
  split at h
  · obtain ⟨r, hr, hK⟩ := Option.bind_eq_some_iff.1 h
    exact ⟨_, hK, g11 k _ r hr⟩
  · cases h
def o99 (l0 : List S88) (r : Int) : Out Rw := ⟨[.c (.sc (.i .i64 r))], [.rows 0 (.e88 l0)]⟩
def Q99 : Mean Rw := fun k a h Z K => match a, h with
  | [.w (.c (.rw 0)), .w (.c (.sc (.i .i64 a1)))], [.rows 0 (.e88 l0)] => (impl_accountKind.f k l0 a1).bind fun r => K (o99 l0 r)
  | _, _ => none
def O99 : List (Cal Rw) := []
theorem O99_ok : ∀ c ∈ O99, Sound Try.prog c := by
  intro c hc
  simp only [O99, List.mem_cons, List.not_mem_nil, or_false] at hc
def C99_0 : Nat → St Rw → Option (Out Rw) := fun k st => match st with
  | ⟨20, 1, 1, [(1, .w (.c (.sc (.i .i64 x1)))), (7, .w (.c (.rw 0))), (8, .w (.c (.sc (.i .i64 x8)))), (9, .w (.c (.sc (.i .i64 x9))))], [(0, .rows 0 (.e88 l0))]⟩ => (impl_accountKind.l0 k x1 l0 x8 x9).bind fun r => some (o99 l0 r)
  | _ => none
def K99 : List (Cut Rw) := [⟨[false, true, false, true], [1, 7, 8, 9], C99_0⟩]
theorem e99_0 (k : Nat) (x1 : Int) (x8 : Int) (x9 : Int) (l0 : List S88) : Lo (seg Try.prog O99 K99 k (body Try.f99) (kEnd Try.prog Try.f99.results.toList) [false, true, false, true] ⟨20, 1, 1, [(1, .w (.c (.sc (.i .i64 x1)))), (7, .w (.c (.rw 0))), (8, .w (.c (.sc (.i .i64 x8)))), (9, .w (.c (.sc (.i .i64 x9))))], [(0, .rows 0 (.e88 l0))]⟩) ((impl_accountKind.l0 (k + 1) x1 l0 x8 x9).bind fun r => some (o99 l0 r)) :=
  Lo.of (b := (if x9 < x8 then (if 0 ≤ x9 then (if x9 < (l0.length : Int) then (if (rd_T88 l0 x9).f0 = x1 then (some (o99 l0 ((rd_T88 l0 x9).f1))) else ((impl_accountKind.l0 k x1 l0 x8 (RowKit.wrap64 (x9 + 1))).bind fun r => some (o99 l0 r))) else none) else none) else (some (o99 l0 0)))) (by kernel_rfl) (by
    rw [impl_accountKind.l0]
    repeat' first
    | with_reducible exact none_L
    | with_reducible refine letB_L (fun _ _ => ?_)
    | with_reducible refine bind_L (fun _ => ?_)
    | with_reducible refine ite_L (fun _ => ?_) (fun _ => ?_)
    | with_reducible refine drop_L (by first | assumption | omega | (simp only [*, List.length_set]; done)) ?_
    | with_reducible refine let_L ?_
    | with_reducible refine some_L ?_
    | with_reducible refine letT_L ?_
    | with_reducible refine ite_I (by omega) (fun _ => ?_) (fun _ => ?_)
    | rfl
    | simp only [Bool.decide_eq_true]
    | exact Lo.refl _
    | (refine Lo.eq ?_; simp only [Bool.decide_eq_true]; done)
    | refine ite_L (fun _ => ?_) (fun _ => ?_))
theorem h99_0 (k : Nat) (st : St Rw) (out : Out Rw) (h : C99_0 (k + 1) st = some out) : seg Try.prog O99 K99 k (body Try.f99) (kEnd Try.prog Try.f99.results.toList) [false, true, false, true] st = some out := by
  unfold C99_0 at h
  split at h
  · exact e99_0 _ _ _ _ _ out h
  · cases h
theorem z99_ok : ∀ c ∈ K99, ∀ st, c.f 0 st = none := by
  intro c hc st
  simp only [K99, List.mem_cons, List.not_mem_nil, or_false] at hc
  rcases hc with rfl
  · show C99_0 0 st = none; unfold C99_0; split <;> rfl
theorem h99_ok : ∀ c ∈ K99, ∀ k st out, c.f (k + 1) st = some out → seg Try.prog O99 K99 k (body Try.f99) (kEnd Try.prog Try.f99.results.toList) c.p st = some out := by
  intro c hc k st out h
  simp only [K99, List.mem_cons, List.not_mem_nil, or_false] at hc
  rcases hc with rfl
  · exact h99_0 k st out h
theorem g99 (k : Nat) (l0 : List (S88)) (a1 : Int) (r : Int) (h : impl_accountKind.f k l0 a1 = some r) : Good Try.prog 99 [.w (.c (.rw 0)), .w (.c (.sc (.i .i64 a1)))] [.rows 0 (.e88 l0)] (o99 l0 r) := by
  refine fn_ok (k := k) O99_ok mixed Try.func99 (root := body Try.f99) (by kernel_rfl) z99_ok h99_ok ?_
  refine Lo.of (b := ((impl_accountKind.l0 k a1 l0 ((l0.length : Int)) 0).bind fun r => some (o99 l0 r))) (c := (impl_accountKind.f k l0 a1).bind fun r => some (o99 l0 r)) (by kernel_rfl) ?_ _ (by rw [h]; rfl)
  · unfold impl_accountKind.f
    repeat' first
    | with_reducible exact none_L
    | with_reducible refine letB_L (fun _ _ => ?_)
    | with_reducible refine bind_L (fun _ => ?_)
    | with_reducible refine ite_L (fun _ => ?_) (fun _ => ?_)
    | with_reducible refine drop_L (by first | assumption | omega | (simp only [*, List.length_set]; done)) ?_
    | with_reducible refine let_L ?_
    | with_reducible refine some_L ?_
    | with_reducible refine letT_L ?_
    | with_reducible refine ite_I (by omega) (fun _ => ?_) (fun _ => ?_)
    | rfl
    | simp only [Bool.decide_eq_true]
    | exact Lo.refl _
    | (refine Lo.eq ?_; simp only [Bool.decide_eq_true]; done)
    | refine ite_L (fun _ => ?_) (fun _ => ?_)
theorem d99 : Sound Try.prog ⟨99, false, Q99⟩ := sound_of ⟨_, Try.func99, by kernel_rfl, by kernel_rfl⟩ fun k args hp Z K z h => by
  unfold Q99 at h
  split at h
  · obtain ⟨r, hr, hK⟩ := Option.bind_eq_some_iff.1 h
    exact ⟨_, hK, g99 k _ _ r hr⟩
  · cases h
def o100 (l0 : List S90) (r : Int) : Out Rw := ⟨[.c (.sc (.i .i64 r))], [.rows 0 (.e90 l0)]⟩
def Q100 : Mean Rw := fun k a h Z K => match a, h with
  | [.w (.c (.rw 0)), .w (.c (.sc (.i .i64 a1)))], [.rows 0 (.e90 l0)] => (impl_instrKind.f k l0 a1).bind fun r => K (o100 l0 r)
  | _, _ => none
def O100 : List (Cal Rw) := []
theorem O100_ok : ∀ c ∈ O100, Sound Try.prog c := by
  intro c hc
  simp only [O100, List.mem_cons, List.not_mem_nil, or_false] at hc
def C100_0 : Nat → St Rw → Option (Out Rw) := fun k st => match st with
  | ⟨20, 1, 1, [(1, .w (.c (.sc (.i .i64 x1)))), (7, .w (.c (.rw 0))), (8, .w (.c (.sc (.i .i64 x8)))), (9, .w (.c (.sc (.i .i64 x9))))], [(0, .rows 0 (.e90 l0))]⟩ => (impl_instrKind.l0 k x1 l0 x8 x9).bind fun r => some (o100 l0 r)
  | _ => none
def K100 : List (Cut Rw) := [⟨[false, true, false, true], [1, 7, 8, 9], C100_0⟩]
theorem e100_0 (k : Nat) (x1 : Int) (x8 : Int) (x9 : Int) (l0 : List S90) : Lo (seg Try.prog O100 K100 k (body Try.f100) (kEnd Try.prog Try.f100.results.toList) [false, true, false, true] ⟨20, 1, 1, [(1, .w (.c (.sc (.i .i64 x1)))), (7, .w (.c (.rw 0))), (8, .w (.c (.sc (.i .i64 x8)))), (9, .w (.c (.sc (.i .i64 x9))))], [(0, .rows 0 (.e90 l0))]⟩) ((impl_instrKind.l0 (k + 1) x1 l0 x8 x9).bind fun r => some (o100 l0 r)) :=
  Lo.of (b := (if x9 < x8 then (if 0 ≤ x9 then (if x9 < (l0.length : Int) then (if (rd_T90 l0 x9).f0 = x1 then (some (o100 l0 ((rd_T90 l0 x9).f1))) else ((impl_instrKind.l0 k x1 l0 x8 (RowKit.wrap64 (x9 + 1))).bind fun r => some (o100 l0 r))) else none) else none) else (some (o100 l0 0)))) (by kernel_rfl) (by
    rw [impl_instrKind.l0]
    repeat' first
    | with_reducible exact none_L
    | with_reducible refine letB_L (fun _ _ => ?_)
    | with_reducible refine bind_L (fun _ => ?_)
    | with_reducible refine ite_L (fun _ => ?_) (fun _ => ?_)
    | with_reducible refine drop_L (by first | assumption | omega | (simp only [*, List.length_set]; done)) ?_
    | with_reducible refine let_L ?_
    | with_reducible refine some_L ?_
    | with_reducible refine letT_L ?_
    | with_reducible refine ite_I (by omega) (fun _ => ?_) (fun _ => ?_)
    | rfl
    | simp only [Bool.decide_eq_true]
    | exact Lo.refl _
    | (refine Lo.eq ?_; simp only [Bool.decide_eq_true]; done)
    | refine ite_L (fun _ => ?_) (fun _ => ?_))
theorem h100_0 (k : Nat) (st : St Rw) (out : Out Rw) (h : C100_0 (k + 1) st = some out) : seg Try.prog O100 K100 k (body Try.f100) (kEnd Try.prog Try.f100.results.toList) [false, true, false, true] st = some out := by
  unfold C100_0 at h
  split at h
  · exact e100_0 _ _ _ _ _ out h
  · cases h
theorem z100_ok : ∀ c ∈ K100, ∀ st, c.f 0 st = none := by
  intro c hc st
  simp only [K100, List.mem_cons, List.not_mem_nil, or_false] at hc
  rcases hc with rfl
  · show C100_0 0 st = none; unfold C100_0; split <;> rfl
theorem h100_ok : ∀ c ∈ K100, ∀ k st out, c.f (k + 1) st = some out → seg Try.prog O100 K100 k (body Try.f100) (kEnd Try.prog Try.f100.results.toList) c.p st = some out := by
  intro c hc k st out h
  simp only [K100, List.mem_cons, List.not_mem_nil, or_false] at hc
  rcases hc with rfl
  · exact h100_0 k st out h
theorem g100 (k : Nat) (l0 : List (S90)) (a1 : Int) (r : Int) (h : impl_instrKind.f k l0 a1 = some r) : Good Try.prog 100 [.w (.c (.rw 0)), .w (.c (.sc (.i .i64 a1)))] [.rows 0 (.e90 l0)] (o100 l0 r) := by
  refine fn_ok (k := k) O100_ok mixed Try.func100 (root := body Try.f100) (by kernel_rfl) z100_ok h100_ok ?_
  refine Lo.of (b := ((impl_instrKind.l0 k a1 l0 ((l0.length : Int)) 0).bind fun r => some (o100 l0 r))) (c := (impl_instrKind.f k l0 a1).bind fun r => some (o100 l0 r)) (by kernel_rfl) ?_ _ (by rw [h]; rfl)
  · unfold impl_instrKind.f
    repeat' first
    | with_reducible exact none_L
    | with_reducible refine letB_L (fun _ _ => ?_)
    | with_reducible refine bind_L (fun _ => ?_)
    | with_reducible refine ite_L (fun _ => ?_) (fun _ => ?_)
    | with_reducible refine drop_L (by first | assumption | omega | (simp only [*, List.length_set]; done)) ?_
    | with_reducible refine let_L ?_
    | with_reducible refine some_L ?_
    | with_reducible refine letT_L ?_
    | with_reducible refine ite_I (by omega) (fun _ => ?_) (fun _ => ?_)
    | rfl
    | simp only [Bool.decide_eq_true]
    | exact Lo.refl _
    | (refine Lo.eq ?_; simp only [Bool.decide_eq_true]; done)
    | refine ite_L (fun _ => ?_) (fun _ => ?_)
theorem d100 : Sound Try.prog ⟨100, false, Q100⟩ := sound_of ⟨_, Try.func100, by kernel_rfl, by kernel_rfl⟩ fun k args hp Z K z h => by
  unfold Q100 at h
  split at h
  · obtain ⟨r, hr, hK⟩ := Option.bind_eq_some_iff.1 h
    exact ⟨_, hK, g100 k _ _ r hr⟩
  · cases h
def o101 (l0 : List S93) (r : Int) : Out Rw := ⟨[.c (.sc (.i .i64 r))], [.rows 0 (.e93 l0)]⟩
def Q101 : Mean Rw := fun k a h Z K => match a, h with
  | [.w (.c (.rw 0)), .w (.c (.sc (.i .i64 a1)))], [.rows 0 (.e93 l0)] => (impl_balsSum.f k l0 a1).bind fun r => K (o101 l0 r)
  | _, _ => none
def O101 : List (Cal Rw) := []
theorem O101_ok : ∀ c ∈ O101, Sound Try.prog c := by
  intro c hc
  simp only [O101, List.mem_cons, List.not_mem_nil, or_false] at hc
def C101_0 : Nat → St Rw → Option (Out Rw) := fun k st => match st with
  | ⟨24, 1, 1, [(1, .w (.c (.sc (.i .i64 x1)))), (5, .w (.c (.sc (.i .i64 x5)))), (8, .w (.c (.rw 0))), (9, .w (.c (.sc (.i .i64 x9)))), (10, .w (.c (.sc (.i .i64 x10))))], [(0, .rows 0 (.e93 l0))]⟩ => (impl_balsSum.l0 k x1 x5 l0 x9 x10).bind fun r => some (o101 l0 r)
  | _ => none
def K101 : List (Cut Rw) := [⟨[false, true, false, true, true], [1, 5, 8, 9, 10], C101_0⟩]
theorem e101_0 (k : Nat) (x1 : Int) (x5 : Int) (x9 : Int) (x10 : Int) (l0 : List S93) : Lo (seg Try.prog O101 K101 k (body Try.f101) (kEnd Try.prog Try.f101.results.toList) [false, true, false, true, true] ⟨24, 1, 1, [(1, .w (.c (.sc (.i .i64 x1)))), (5, .w (.c (.sc (.i .i64 x5)))), (8, .w (.c (.rw 0))), (9, .w (.c (.sc (.i .i64 x9)))), (10, .w (.c (.sc (.i .i64 x10))))], [(0, .rows 0 (.e93 l0))]⟩) ((impl_balsSum.l0 (k + 1) x1 x5 l0 x9 x10).bind fun r => some (o101 l0 r)) :=
  Lo.of (b := (if x10 < x9 then (if 0 ≤ x10 then (if x10 < (l0.length : Int) then (if (rd_T93 l0 x10).f1 = x1 then ((impl_balsSum.l0 k x1 (RowKit.wrap64 (x5 + (rd_T93 l0 x10).f2)) l0 x9 (RowKit.wrap64 (x10 + 1))).bind fun r => some (o101 l0 r)) else ((impl_balsSum.l0 k x1 x5 l0 x9 (RowKit.wrap64 (x10 + 1))).bind fun r => some (o101 l0 r))) else none) else none) else (some (o101 l0 x5)))) (by kernel_rfl) (by
    rw [impl_balsSum.l0]
    repeat' first
    | with_reducible exact none_L
    | with_reducible refine letB_L (fun _ _ => ?_)
    | with_reducible refine bind_L (fun _ => ?_)
    | with_reducible refine ite_L (fun _ => ?_) (fun _ => ?_)
    | with_reducible refine drop_L (by first | assumption | omega | (simp only [*, List.length_set]; done)) ?_
    | with_reducible refine let_L ?_
    | with_reducible refine some_L ?_
    | with_reducible refine letT_L ?_
    | with_reducible refine ite_I (by omega) (fun _ => ?_) (fun _ => ?_)
    | rfl
    | simp only [Bool.decide_eq_true]
    | exact Lo.refl _
    | (refine Lo.eq ?_; simp only [Bool.decide_eq_true]; done)
    | refine ite_L (fun _ => ?_) (fun _ => ?_))
theorem h101_0 (k : Nat) (st : St Rw) (out : Out Rw) (h : C101_0 (k + 1) st = some out) : seg Try.prog O101 K101 k (body Try.f101) (kEnd Try.prog Try.f101.results.toList) [false, true, false, true, true] st = some out := by
  unfold C101_0 at h
  split at h
  · exact e101_0 _ _ _ _ _ _ out h
  · cases h
theorem z101_ok : ∀ c ∈ K101, ∀ st, c.f 0 st = none := by
  intro c hc st
  simp only [K101, List.mem_cons, List.not_mem_nil, or_false] at hc
  rcases hc with rfl
  · show C101_0 0 st = none; unfold C101_0; split <;> rfl
theorem h101_ok : ∀ c ∈ K101, ∀ k st out, c.f (k + 1) st = some out → seg Try.prog O101 K101 k (body Try.f101) (kEnd Try.prog Try.f101.results.toList) c.p st = some out := by
  intro c hc k st out h
  simp only [K101, List.mem_cons, List.not_mem_nil, or_false] at hc
  rcases hc with rfl
  · exact h101_0 k st out h
theorem g101 (k : Nat) (l0 : List (S93)) (a1 : Int) (r : Int) (h : impl_balsSum.f k l0 a1 = some r) : Good Try.prog 101 [.w (.c (.rw 0)), .w (.c (.sc (.i .i64 a1)))] [.rows 0 (.e93 l0)] (o101 l0 r) := by
  refine fn_ok (k := k) O101_ok mixed Try.func101 (root := body Try.f101) (by kernel_rfl) z101_ok h101_ok ?_
  refine Lo.of (b := ((impl_balsSum.l0 k a1 0 l0 ((l0.length : Int)) 0).bind fun r => some (o101 l0 r))) (c := (impl_balsSum.f k l0 a1).bind fun r => some (o101 l0 r)) (by kernel_rfl) ?_ _ (by rw [h]; rfl)
  · unfold impl_balsSum.f
    repeat' first
    | with_reducible exact none_L
    | with_reducible refine letB_L (fun _ _ => ?_)
    | with_reducible refine bind_L (fun _ => ?_)
    | with_reducible refine ite_L (fun _ => ?_) (fun _ => ?_)
    | with_reducible refine drop_L (by first | assumption | omega | (simp only [*, List.length_set]; done)) ?_
    | with_reducible refine let_L ?_
    | with_reducible refine some_L ?_
    | with_reducible refine letT_L ?_
    | with_reducible refine ite_I (by omega) (fun _ => ?_) (fun _ => ?_)
    | rfl
    | simp only [Bool.decide_eq_true]
    | exact Lo.refl _
    | (refine Lo.eq ?_; simp only [Bool.decide_eq_true]; done)
    | refine ite_L (fun _ => ?_) (fun _ => ?_)
theorem d101 : Sound Try.prog ⟨101, false, Q101⟩ := sound_of ⟨_, Try.func101, by kernel_rfl, by kernel_rfl⟩ fun k args hp Z K z h => by
  unfold Q101 at h
  split at h
  · obtain ⟨r, hr, hK⟩ := Option.bind_eq_some_iff.1 h
    exact ⟨_, hK, g101 k _ _ r hr⟩
  · cases h
def o70 (l0_0 : List S88) (l0_1 : List S90) (l0_2 : List S93) (l0_3 : List S96) (l0_4 : List S50) (r : Bool) : Out Rw := ⟨[.c (.sc (.b r))], [.rows 0 (.e88 l0_0), .rows 0 (.e90 l0_1), .rows 0 (.e93 l0_2), .rows 0 (.e96 l0_3), .rows 0 (.e50 l0_4)]⟩
def Q70 : Mean Rw := fun k a h Z K => match a, h with
  | [.w (.ag [.rw 0, .rw 1, .rw 2, .rw 3, .rw 4, .sc (.i .i64 a0_5)])], [.rows 0 (.e88 l0_0), .rows 0 (.e90 l0_1), .rows 0 (.e93 l0_2), .rows 0 (.e96 l0_3), .rows 0 (.e50 l0_4)] => (impl_balsRight.f k l0_0 l0_1 l0_2 l0_3 l0_4 a0_5).bind fun r => K (o70 l0_0 l0_1 l0_2 l0_3 l0_4 r)
  | _, _ => none
def O70 : List (Cal Rw) := [⟨99, false, Q99⟩, ⟨100, false, Q100⟩, ⟨101, false, Q101⟩]
theorem O70_ok : ∀ c ∈ O70, Sound Try.prog c := by
  intro c hc
  simp only [O70, List.mem_cons, List.not_mem_nil, or_false] at hc
  rcases hc with rfl | rfl | rfl
  · exact d99
  · exact d100
  · exact d101
def C70_0 : Nat → St Rw → Option (Out Rw) := fun k st => match st with
  | ⟨46, 5, 6, [(1, .pt 5 0), (7, .w (.c (.rw 2))), (8, .w (.c (.sc (.i .i64 x8)))), (9, .w (.c (.sc (.i .i64 x9))))], [(0, .rows 0 (.e88 l0_0)), (1, .rows 0 (.e90 l0_1)), (2, .rows 0 (.e93 l0_2)), (3, .rows 0 (.e96 l0_3)), (4, .rows 0 (.e50 l0_4)), (5, .box 34 [.rw 0, .rw 1, .rw 2, .rw 3, .rw 4, .sc (.i .i64 b5_5)])]⟩ => (impl_balsRight.l0 k l0_2 x8 x9 l0_0 l0_1 l0_2 l0_3 l0_4 b5_5).bind fun r => some (o70 l0_0 l0_1 l0_2 l0_3 l0_4 r)
  | _ => none
def K70 : List (Cut Rw) := [⟨[false, true, false, true], [1, 7, 8, 9], C70_0⟩]
theorem e70_0 (k : Nat) (x8 : Int) (x9 : Int) (l0_0 : List S88) (l0_1 : List S90) (l0_2 : List S93) (l0_3 : List S96) (l0_4 : List S50) (b5_5 : Int) : Lo (seg Try.prog O70 K70 k (body Try.f70) (kEnd Try.prog Try.f70.results.toList) [false, true, false, true] ⟨46, 5, 6, [(1, .pt 5 0), (7, .w (.c (.rw 2))), (8, .w (.c (.sc (.i .i64 x8)))), (9, .w (.c (.sc (.i .i64 x9))))], [(0, .rows 0 (.e88 l0_0)), (1, .rows 0 (.e90 l0_1)), (2, .rows 0 (.e93 l0_2)), (3, .rows 0 (.e96 l0_3)), (4, .rows 0 (.e50 l0_4)), (5, .box 34 [.rw 0, .rw 1, .rw 2, .rw 3, .rw 4, .sc (.i .i64 b5_5)])]⟩) ((impl_balsRight.l0 (k + 1) l0_2 x8 x9 l0_0 l0_1 l0_2 l0_3 l0_4 b5_5).bind fun r => some (o70 l0_0 l0_1 l0_2 l0_3 l0_4 r)) :=
  Lo.of (b := (if x9 < x8 then (if 0 ≤ x9 then (if x9 < (l0_2.length : Int) then ((impl_accountKind.f k l0_0 (rd_T93 l0_2 x9).f0).bind fun r9 => (if r9 = 0 then (some (o70 l0_0 l0_1 l0_2 l0_3 l0_4 false)) else ((impl_instrKind.f k l0_1 (rd_T93 l0_2 x9).f1).bind fun r10 => (if r10 = 0 then (some (o70 l0_0 l0_1 l0_2 l0_3 l0_4 false)) else (if r9 = 1 then (if (rd_T93 l0_2 x9).f2 < 0 then (some (o70 l0_0 l0_1 l0_2 l0_3 l0_4 false)) else ((impl_balsSum.f k l0_2 (rd_T93 l0_2 x9).f1).bind fun r11 => (if r11 = 0 then ((impl_balsRight.l0 k l0_2 x8 (RowKit.wrap64 (x9 + 1)) l0_0 l0_1 l0_2 l0_3 l0_4 b5_5).bind fun r => some (o70 l0_0 l0_1 l0_2 l0_3 l0_4 r)) else (some (o70 l0_0 l0_1 l0_2 l0_3 l0_4 false))))) else ((impl_balsSum.f k l0_2 (rd_T93 l0_2 x9).f1).bind fun r11 => (if r11 = 0 then ((impl_balsRight.l0 k l0_2 x8 (RowKit.wrap64 (x9 + 1)) l0_0 l0_1 l0_2 l0_3 l0_4 b5_5).bind fun r => some (o70 l0_0 l0_1 l0_2 l0_3 l0_4 r)) else (some (o70 l0_0 l0_1 l0_2 l0_3 l0_4 false))))))))) else none) else none) else (some (o70 l0_0 l0_1 l0_2 l0_3 l0_4 true)))) (by kernel_rfl) (by
    rw [impl_balsRight.l0]
    repeat' first
    | with_reducible exact none_L
    | with_reducible refine letB_L (fun _ _ => ?_)
    | with_reducible refine bind_L (fun _ => ?_)
    | with_reducible refine ite_L (fun _ => ?_) (fun _ => ?_)
    | with_reducible refine drop_L (by first | assumption | omega | (simp only [*, List.length_set]; done)) ?_
    | with_reducible refine let_L ?_
    | with_reducible refine some_L ?_
    | with_reducible refine letT_L ?_
    | with_reducible refine ite_I (by omega) (fun _ => ?_) (fun _ => ?_)
    | rfl
    | simp only [Bool.decide_eq_true]
    | exact Lo.refl _
    | (refine Lo.eq ?_; simp only [Bool.decide_eq_true]; done)
    | refine ite_L (fun _ => ?_) (fun _ => ?_))
theorem h70_0 (k : Nat) (st : St Rw) (out : Out Rw) (h : C70_0 (k + 1) st = some out) : seg Try.prog O70 K70 k (body Try.f70) (kEnd Try.prog Try.f70.results.toList) [false, true, false, true] st = some out := by
  unfold C70_0 at h
  split at h
  · exact e70_0 _ _ _ _ _ _ _ _ _ out h
  · cases h
theorem z70_ok : ∀ c ∈ K70, ∀ st, c.f 0 st = none := by
  intro c hc st
  simp only [K70, List.mem_cons, List.not_mem_nil, or_false] at hc
  rcases hc with rfl
  · show C70_0 0 st = none; unfold C70_0; split <;> rfl
theorem h70_ok : ∀ c ∈ K70, ∀ k st out, c.f (k + 1) st = some out → seg Try.prog O70 K70 k (body Try.f70) (kEnd Try.prog Try.f70.results.toList) c.p st = some out := by
  intro c hc k st out h
  simp only [K70, List.mem_cons, List.not_mem_nil, or_false] at hc
  rcases hc with rfl
  · exact h70_0 k st out h
theorem g70 (k : Nat) (l0_0 : List (S88)) (l0_1 : List (S90)) (l0_2 : List (S93)) (l0_3 : List (S96)) (l0_4 : List (S50)) (a0_5 : Int) (r : Bool) (h : impl_balsRight.f k l0_0 l0_1 l0_2 l0_3 l0_4 a0_5 = some r) : Good Try.prog 70 [.w (.ag [.rw 0, .rw 1, .rw 2, .rw 3, .rw 4, .sc (.i .i64 a0_5)])] [.rows 0 (.e88 l0_0), .rows 0 (.e90 l0_1), .rows 0 (.e93 l0_2), .rows 0 (.e96 l0_3), .rows 0 (.e50 l0_4)] (o70 l0_0 l0_1 l0_2 l0_3 l0_4 r) := by
  refine fn_ok (k := k) O70_ok mixed Try.func70 (root := body Try.f70) (by kernel_rfl) z70_ok h70_ok ?_
  refine Lo.of (b := ((impl_balsRight.l0 k l0_2 ((l0_2.length : Int)) 0 l0_0 l0_1 l0_2 l0_3 l0_4 a0_5).bind fun r => some (o70 l0_0 l0_1 l0_2 l0_3 l0_4 r))) (c := (impl_balsRight.f k l0_0 l0_1 l0_2 l0_3 l0_4 a0_5).bind fun r => some (o70 l0_0 l0_1 l0_2 l0_3 l0_4 r)) (by kernel_rfl) ?_ _ (by rw [h]; rfl)
  · unfold impl_balsRight.f
    repeat' first
    | with_reducible exact none_L
    | with_reducible refine letB_L (fun _ _ => ?_)
    | with_reducible refine bind_L (fun _ => ?_)
    | with_reducible refine ite_L (fun _ => ?_) (fun _ => ?_)
    | with_reducible refine drop_L (by first | assumption | omega | (simp only [*, List.length_set]; done)) ?_
    | with_reducible refine let_L ?_
    | with_reducible refine some_L ?_
    | with_reducible refine letT_L ?_
    | with_reducible refine ite_I (by omega) (fun _ => ?_) (fun _ => ?_)
    | rfl
    | simp only [Bool.decide_eq_true]
    | exact Lo.refl _
    | (refine Lo.eq ?_; simp only [Bool.decide_eq_true]; done)
    | refine ite_L (fun _ => ?_) (fun _ => ?_)
theorem d70 : Sound Try.prog ⟨70, false, Q70⟩ := sound_of ⟨_, Try.func70, by kernel_rfl, by kernel_rfl⟩ fun k args hp Z K z h => by
  unfold Q70 at h
  split at h
  · obtain ⟨r, hr, hK⟩ := Option.bind_eq_some_iff.1 h
    exact ⟨_, hK, g70 k _ _ _ _ _ _ r hr⟩
  · cases h
end Go.Proofs.Ytmfgajbkcnlkcaa.AI
namespace Go.Proofs.Ytmfgajbkcnlkcaa.AI
open Go Go.RowKit Go.Proofs.YtmfgajbkcnlkcaaW.PrintWords Go.Proofs.Ytmfgajbkcnlkcaa.P
set_option linter.unusedVariables false
set_option linter.all false
set_option maxRecDepth 100000
def o69 (l0 : List S96) (r : Bool) : Out Rw := ⟨[.c (.sc (.b r))], [.rows 0 (.e96 l0)]⟩
def Q69 : Mean Rw := fun k a h Z K => match a, h with
  | [.w (.c (.rw 0))], [.rows 0 (.e96 l0)] => (impl_LotsOk.f l0).bind fun r => K (o69 l0 r)
  | _, _ => none
theorem g69 (k : Nat) (l0 : List (S96)) (r : Bool) (h : impl_LotsOk.f l0 = some r) : Good Try.prog 69 [.w (.c (.rw 0))] [.rows 0 (.e96 l0)] (o69 l0 r) := by
  refine good_ro (by simp [isRo]) (by simp [idsW, idsC]) fun w g hA => ?_
  obtain ⟨A0, c0, e0, hc0, hr0⟩ := ro96.1 (hA.blk 0 _ rfl)
  have hv : (List.map (concV g) [.w (.c (.rw 0))]).toArray = #[.slice A0 l0.length c0] := by simp [concV, concW, conc, Sc.v, e0]
  rw [hv]
  exact (impl_LotsOk.calls A0 c0 l0 r w hr0 hc0 h).mono fun e w' he => ⟨he.1, he.2⟩
theorem d69 : Sound Try.prog ⟨69, false, Q69⟩ := sound_of ⟨_, Try.func69, by kernel_rfl, by kernel_rfl⟩ fun k args hp Z K z h => by
  unfold Q69 at h
  split at h
  · obtain ⟨r, hr, hK⟩ := Option.bind_eq_some_iff.1 h
    exact ⟨_, hK, g69 k _ r hr⟩
  · cases h
def o72 (l0_0 : List S88) (l0_1 : List S90) (l0_2 : List S93) (l0_3 : List S96) (l0_4 : List S50) (r : Bool) : Out Rw := ⟨[.c (.sc (.b r))], [.rows 0 (.e88 l0_0), .rows 0 (.e90 l0_1), .rows 0 (.e93 l0_2), .rows 0 (.e96 l0_3), .rows 0 (.e50 l0_4)]⟩
def Q72 : Mean Rw := fun k a h Z K => match a, h with
  | [.w (.ag [.rw 0, .rw 1, .rw 2, .rw 3, .rw 4, .sc (.i .i64 a0_5)])], [.rows 0 (.e88 l0_0), .rows 0 (.e90 l0_1), .rows 0 (.e93 l0_2), .rows 0 (.e96 l0_3), .rows 0 (.e50 l0_4)] => (impl_tradesRight.f l0_0 l0_1 l0_2 l0_3 l0_4 a0_5).bind fun r => K (o72 l0_0 l0_1 l0_2 l0_3 l0_4 r)
  | _, _ => none
theorem g72 (k : Nat) (l0_0 : List (S88)) (l0_1 : List (S90)) (l0_2 : List (S93)) (l0_3 : List (S96)) (l0_4 : List (S50)) (a0_5 : Int) (r : Bool) (h : impl_tradesRight.f l0_0 l0_1 l0_2 l0_3 l0_4 a0_5 = some r) : Good Try.prog 72 [.w (.ag [.rw 0, .rw 1, .rw 2, .rw 3, .rw 4, .sc (.i .i64 a0_5)])] [.rows 0 (.e88 l0_0), .rows 0 (.e90 l0_1), .rows 0 (.e93 l0_2), .rows 0 (.e96 l0_3), .rows 0 (.e50 l0_4)] (o72 l0_0 l0_1 l0_2 l0_3 l0_4 r) := by
  refine good_ro (by simp [isRo]) (by simp [idsW, idsC]) fun w g hA => ?_
  obtain ⟨A0_0, c0_0, e0_0, hc0_0, hr0_0⟩ := ro88.1 (hA.blk 0 _ rfl)
  obtain ⟨A0_1, c0_1, e0_1, hc0_1, hr0_1⟩ := ro90.1 (hA.blk 1 _ rfl)
  obtain ⟨A0_2, c0_2, e0_2, hc0_2, hr0_2⟩ := ro93.1 (hA.blk 2 _ rfl)
  obtain ⟨A0_3, c0_3, e0_3, hc0_3, hr0_3⟩ := ro96.1 (hA.blk 3 _ rfl)
  obtain ⟨A0_4, c0_4, e0_4, hc0_4, hr0_4⟩ := ro50.1 (hA.blk 4 _ rfl)
  have hv : (List.map (concV g) [.w (.ag [.rw 0, .rw 1, .rw 2, .rw 3, .rw 4, .sc (.i .i64 a0_5)])]).toArray = #[.agg #[.slice A0_0 l0_0.length c0_0, .slice A0_1 l0_1.length c0_1, .slice A0_2 l0_2.length c0_2, .slice A0_3 l0_3.length c0_3, .slice A0_4 l0_4.length c0_4, .int .i64 a0_5]] := by simp [concV, concW, conc, Sc.v, e0_0, e0_1, e0_2, e0_3, e0_4]
  rw [hv]
  exact (impl_tradesRight.calls A0_0 c0_0 l0_0 A0_1 c0_1 l0_1 A0_2 c0_2 l0_2 A0_3 c0_3 l0_3 A0_4 c0_4 l0_4 a0_5 r w hr0_0 hc0_0 hr0_1 hc0_1 hr0_2 hc0_2 hr0_3 hc0_3 hr0_4 hc0_4 h).mono fun e w' he => ⟨he.1, he.2⟩
theorem d72 : Sound Try.prog ⟨72, false, Q72⟩ := sound_of ⟨_, Try.func72, by kernel_rfl, by kernel_rfl⟩ fun k args hp Z K z h => by
  unfold Q72 at h
  split at h
  · obtain ⟨r, hr, hK⟩ := Option.bind_eq_some_iff.1 h
    exact ⟨_, hK, g72 k _ _ _ _ _ _ r hr⟩
  · cases h
def o98 (l0 : List S96) (r : List (S96)) : Out Rw := ⟨[.c (.rw 1)], [.rows 0 (.e96 l0), .rows 2 (.e96 r)]⟩
def Q98 : Mean Rw := fun k a h Z K => match a, h with
  | [.w (.c (.rw 0)), .w (.c (.sc (.i .i64 a1))), .w (.c (.sc (.i .i64 a2)))], [.rows 0 (.e96 l0)] => (impl_lotsOf.f l0 a1 a2).bind fun r => K (o98 l0 r)
  | _, _ => none
theorem g98 (k : Nat) (l0 : List (S96)) (a1 : Int) (a2 : Int) (r : List (S96)) (h : impl_lotsOf.f l0 a1 a2 = some r) : Good Try.prog 98 [.w (.c (.rw 0)), .w (.c (.sc (.i .i64 a1))), .w (.c (.sc (.i .i64 a2)))] [.rows 0 (.e96 l0)] (o98 l0 r) := by
  refine good_new (by simp [isRo]) fun w g hA => ?_
  obtain ⟨A0, c0, e0, hc0, hr0⟩ := ro96.1 (hA.blk 0 _ rfl)
  have hv : (List.map (concV g) [.w (.c (.rw 0)), .w (.c (.sc (.i .i64 a1))), .w (.c (.sc (.i .i64 a2)))]).toArray = #[.slice A0 l0.length c0, .int .i64 a1, .int .i64 a2] := by simp [concV, concW, conc, Sc.v, e0]
  rw [hv]
  exact (impl_lotsOf.calls A0 c0 l0 a1 a2 r w hr0 hc0 h).mono fun e w' he => he.elim fun v he => ⟨v, he.1, nw96 he.2.1, he.2.2⟩
theorem d98 : Sound Try.prog ⟨98, false, Q98⟩ := sound_of ⟨_, Try.func98, by kernel_rfl, by kernel_rfl⟩ fun k args hp Z K z h => by
  unfold Q98 at h
  split at h
  · obtain ⟨r, hr, hK⟩ := Option.bind_eq_some_iff.1 h
    exact ⟨_, hK, g98 k _ _ _ r hr⟩
  · cases h
end Go.Proofs.Ytmfgajbkcnlkcaa.AI
namespace Go.Proofs.Ytmfgajbkcnlkcaa.AI
open Go Go.RowKit Go.Proofs.YtmfgajbkcnlkcaaW.PrintWords Go.Proofs.Ytmfgajbkcnlkcaa.P
set_option linter.unusedVariables false
set_option linter.all false
set_option maxRecDepth 100000
def o97 (l0 : List S96) (r : Int × Int) : Out Rw := ⟨[.c (.sc (.i .i64 r.1)), .c (.sc (.i .i64 r.2))], [.rows 0 (.e96 l0)]⟩
def Q97 : Mean Rw := fun k a h Z K => match a, h with
  | [.w (.c (.rw 0))], [.rows 0 (.e96 l0)] => (impl_sumLots.f k l0).bind fun r => K (o97 l0 r)
  | _, _ => none
def O97 : List (Cal Rw) := []
theorem O97_ok : ∀ c ∈ O97, Sound Try.prog c := by
  intro c hc
  simp only [O97, List.mem_cons, List.not_mem_nil, or_false] at hc
def C97_0 : Nat → St Rw → Option (Out Rw) := fun k st => match st with
  | ⟨25, 1, 1, [(4, .w (.c (.sc (.i .i64 x4)))), (5, .w (.c (.sc (.i .i64 x5)))), (8, .w (.c (.rw 0))), (9, .w (.c (.sc (.i .i64 x9)))), (10, .w (.c (.sc (.i .i64 x10))))], [(0, .rows 0 (.e96 l0))]⟩ => (impl_sumLots.l0 k x4 x5 l0 x9 x10).bind fun r => some (o97 l0 r)
  | _ => none
def K97 : List (Cut Rw) := [⟨[false, true, false, true, true], [4, 5, 8, 9, 10], C97_0⟩]
theorem e97_0 (k : Nat) (x4 : Int) (x5 : Int) (x9 : Int) (x10 : Int) (l0 : List S96) : Lo (seg Try.prog O97 K97 k (body Try.f97) (kEnd Try.prog Try.f97.results.toList) [false, true, false, true, true] ⟨25, 1, 1, [(4, .w (.c (.sc (.i .i64 x4)))), (5, .w (.c (.sc (.i .i64 x5)))), (8, .w (.c (.rw 0))), (9, .w (.c (.sc (.i .i64 x9)))), (10, .w (.c (.sc (.i .i64 x10))))], [(0, .rows 0 (.e96 l0))]⟩) ((impl_sumLots.l0 (k + 1) x4 x5 l0 x9 x10).bind fun r => some (o97 l0 r)) :=
  Lo.of (b := (if x10 < x9 then (if 0 ≤ x10 then (if x10 < (l0.length : Int) then ((impl_sumLots.l0 k (RowKit.wrap64 (x4 + (rd_T96 l0 x10).f3)) (RowKit.wrap64 (x5 + (rd_T96 l0 x10).f4)) l0 x9 (RowKit.wrap64 (x10 + 1))).bind fun r => some (o97 l0 r)) else none) else none) else (some (o97 l0 (x4, x5))))) (by kernel_rfl) (by
    rw [impl_sumLots.l0]
    repeat' first
    | with_reducible exact none_L
    | with_reducible refine letB_L (fun _ _ => ?_)
    | with_reducible refine bind_L (fun _ => ?_)
    | with_reducible refine ite_L (fun _ => ?_) (fun _ => ?_)
    | with_reducible refine drop_L (by first | assumption | omega | (simp only [*, List.length_set]; done)) ?_
    | with_reducible refine let_L ?_
    | with_reducible refine some_L ?_
    | with_reducible refine letT_L ?_
    | with_reducible refine ite_I (by omega) (fun _ => ?_) (fun _ => ?_)
    | rfl
    | simp only [Bool.decide_eq_true]
    | exact Lo.refl _
    | (refine Lo.eq ?_; simp only [Bool.decide_eq_true]; done)
    | refine ite_L (fun _ => ?_) (fun _ => ?_))
theorem h97_0 (k : Nat) (st : St Rw) (out : Out Rw) (h : C97_0 (k + 1) st = some out) : seg Try.prog O97 K97 k (body Try.f97) (kEnd Try.prog Try.f97.results.toList) [false, true, false, true, true] st = some out := by
  unfold C97_0 at h
  split at h
  · exact e97_0 _ _ _ _ _ _ out h
  · cases h
theorem z97_ok : ∀ c ∈ K97, ∀ st, c.f 0 st = none := by
  intro c hc st
  simp only [K97, List.mem_cons, List.not_mem_nil, or_false] at hc
  rcases hc with rfl
  · show C97_0 0 st = none; unfold C97_0; split <;> rfl
theorem h97_ok : ∀ c ∈ K97, ∀ k st out, c.f (k + 1) st = some out → seg Try.prog O97 K97 k (body Try.f97) (kEnd Try.prog Try.f97.results.toList) c.p st = some out := by
  intro c hc k st out h
  simp only [K97, List.mem_cons, List.not_mem_nil, or_false] at hc
  rcases hc with rfl
  · exact h97_0 k st out h
theorem g97 (k : Nat) (l0 : List (S96)) (r : Int × Int) (h : impl_sumLots.f k l0 = some r) : Good Try.prog 97 [.w (.c (.rw 0))] [.rows 0 (.e96 l0)] (o97 l0 r) := by
  refine fn_ok (k := k) O97_ok mixed Try.func97 (root := body Try.f97) (by kernel_rfl) z97_ok h97_ok ?_
  refine Lo.of (b := ((impl_sumLots.l0 k 0 0 l0 ((l0.length : Int)) 0).bind fun r => some (o97 l0 r))) (c := (impl_sumLots.f k l0).bind fun r => some (o97 l0 r)) (by kernel_rfl) ?_ _ (by rw [h]; rfl)
  · unfold impl_sumLots.f
    repeat' first
    | with_reducible exact none_L
    | with_reducible refine letB_L (fun _ _ => ?_)
    | with_reducible refine bind_L (fun _ => ?_)
    | with_reducible refine ite_L (fun _ => ?_) (fun _ => ?_)
    | with_reducible refine drop_L (by first | assumption | omega | (simp only [*, List.length_set]; done)) ?_
    | with_reducible refine let_L ?_
    | with_reducible refine some_L ?_
    | with_reducible refine letT_L ?_
    | with_reducible refine ite_I (by omega) (fun _ => ?_) (fun _ => ?_)
    | rfl
    | simp only [Bool.decide_eq_true]
    | exact Lo.refl _
    | (refine Lo.eq ?_; simp only [Bool.decide_eq_true]; done)
    | refine ite_L (fun _ => ?_) (fun _ => ?_)
theorem d97 : Sound Try.prog ⟨97, false, Q97⟩ := sound_of ⟨_, Try.func97, by kernel_rfl, by kernel_rfl⟩ fun k args hp Z K z h => by
  unfold Q97 at h
  split at h
  · obtain ⟨r, hr, hK⟩ := Option.bind_eq_some_iff.1 h
    exact ⟨_, hK, g97 k _ r hr⟩
  · cases h
def o113 (l0 : List S93) (r : Int × Bool) : Out Rw := ⟨[.c (.sc (.i .i64 r.1)), .c (.sc (.b r.2))], [.rows 0 (.e93 l0)]⟩
def Q113 : Mean Rw := fun k a h Z K => match a, h with
  | [.w (.c (.rw 0)), .w (.c (.sc (.i .i64 a1))), .w (.c (.sc (.i .i64 a2)))], [.rows 0 (.e93 l0)] => (impl_balAt.f k l0 a1 a2).bind fun r => K (o113 l0 r)
  | _, _ => none
def O113 : List (Cal Rw) := [⟨92, false, Q92⟩]
theorem O113_ok : ∀ c ∈ O113, Sound Try.prog c := by
  intro c hc
  simp only [O113, List.mem_cons, List.not_mem_nil, or_false] at hc
  rcases hc with rfl
  · exact d92
def C113_0 : Nat → St Rw → Option (Out Rw) := fun k st => match st with
  | ⟨33, 1, 1, [(0, .w (.c (.rw 0))), (1, .w (.c (.sc (.i .i64 x1)))), (2, .w (.c (.sc (.i .i64 x2)))), (11, .w (.c (.rw 0))), (12, .w (.c (.sc (.i .i64 x12)))), (13, .w (.c (.sc (.i .i64 x13))))], [(0, .rows 0 (.e93 l0))]⟩ => (impl_balAt.l0 k l0 x1 x2 l0 x12 x13).bind fun r => some (o113 l0 r)
  | _ => none
def K113 : List (Cut Rw) := [⟨[false, true, false, true], [0, 1, 2, 11, 12, 13], C113_0⟩]
theorem e113_0 (k : Nat) (x1 : Int) (x2 : Int) (x12 : Int) (x13 : Int) (l0 : List S93) : Lo (seg Try.prog O113 K113 k (body Try.f113) (kEnd Try.prog Try.f113.results.toList) [false, true, false, true] ⟨33, 1, 1, [(0, .w (.c (.rw 0))), (1, .w (.c (.sc (.i .i64 x1)))), (2, .w (.c (.sc (.i .i64 x2)))), (11, .w (.c (.rw 0))), (12, .w (.c (.sc (.i .i64 x12)))), (13, .w (.c (.sc (.i .i64 x13))))], [(0, .rows 0 (.e93 l0))]⟩) ((impl_balAt.l0 (k + 1) l0 x1 x2 l0 x12 x13).bind fun r => some (o113 l0 r)) :=
  Lo.of (b := (if x13 < x12 then (if 0 ≤ x13 then (if x13 < (l0.length : Int) then ((impl_byBoth.f k (rd_T93 l0 x13).f0 (rd_T93 l0 x13).f1 x1 x2).bind fun r6 => (if r6 ≥ 0 then (some (o113 l0 (x13, decide (r6 = 0)))) else ((impl_balAt.l0 k l0 x1 x2 l0 x12 (RowKit.wrap64 (x13 + 1))).bind fun r => some (o113 l0 r)))) else none) else none) else (some (o113 l0 ((l0.length : Int), false))))) (by kernel_rfl) (by
    rw [impl_balAt.l0]
    repeat' first
    | with_reducible exact none_L
    | with_reducible refine letB_L (fun _ _ => ?_)
    | with_reducible refine bind_L (fun _ => ?_)
    | with_reducible refine ite_L (fun _ => ?_) (fun _ => ?_)
    | with_reducible refine drop_L (by first | assumption | omega | (simp only [*, List.length_set]; done)) ?_
    | with_reducible refine let_L ?_
    | with_reducible refine some_L ?_
    | with_reducible refine letT_L ?_
    | with_reducible refine ite_I (by omega) (fun _ => ?_) (fun _ => ?_)
    | rfl
    | simp only [Bool.decide_eq_true]
    | exact Lo.refl _
    | (refine Lo.eq ?_; simp only [Bool.decide_eq_true]; done)
    | refine ite_L (fun _ => ?_) (fun _ => ?_))
theorem h113_0 (k : Nat) (st : St Rw) (out : Out Rw) (h : C113_0 (k + 1) st = some out) : seg Try.prog O113 K113 k (body Try.f113) (kEnd Try.prog Try.f113.results.toList) [false, true, false, true] st = some out := by
  unfold C113_0 at h
  split at h
  · exact e113_0 _ _ _ _ _ _ out h
  · cases h
theorem z113_ok : ∀ c ∈ K113, ∀ st, c.f 0 st = none := by
  intro c hc st
  simp only [K113, List.mem_cons, List.not_mem_nil, or_false] at hc
  rcases hc with rfl
  · show C113_0 0 st = none; unfold C113_0; split <;> rfl
theorem h113_ok : ∀ c ∈ K113, ∀ k st out, c.f (k + 1) st = some out → seg Try.prog O113 K113 k (body Try.f113) (kEnd Try.prog Try.f113.results.toList) c.p st = some out := by
  intro c hc k st out h
  simp only [K113, List.mem_cons, List.not_mem_nil, or_false] at hc
  rcases hc with rfl
  · exact h113_0 k st out h
theorem g113 (k : Nat) (l0 : List (S93)) (a1 : Int) (a2 : Int) (r : Int × Bool) (h : impl_balAt.f k l0 a1 a2 = some r) : Good Try.prog 113 [.w (.c (.rw 0)), .w (.c (.sc (.i .i64 a1))), .w (.c (.sc (.i .i64 a2)))] [.rows 0 (.e93 l0)] (o113 l0 r) := by
  refine fn_ok (k := k) O113_ok mixed Try.func113 (root := body Try.f113) (by kernel_rfl) z113_ok h113_ok ?_
  refine Lo.of (b := ((impl_balAt.l0 k l0 a1 a2 l0 ((l0.length : Int)) 0).bind fun r => some (o113 l0 r))) (c := (impl_balAt.f k l0 a1 a2).bind fun r => some (o113 l0 r)) (by kernel_rfl) ?_ _ (by rw [h]; rfl)
  · unfold impl_balAt.f
    repeat' first
    | with_reducible exact none_L
    | with_reducible refine letB_L (fun _ _ => ?_)
    | with_reducible refine bind_L (fun _ => ?_)
    | with_reducible refine ite_L (fun _ => ?_) (fun _ => ?_)
    | with_reducible refine drop_L (by first | assumption | omega | (simp only [*, List.length_set]; done)) ?_
    | with_reducible refine let_L ?_
    | with_reducible refine some_L ?_
    | with_reducible refine letT_L ?_
    | with_reducible refine ite_I (by omega) (fun _ => ?_) (fun _ => ?_)
    | rfl
    | simp only [Bool.decide_eq_true]
    | exact Lo.refl _
    | (refine Lo.eq ?_; simp only [Bool.decide_eq_true]; done)
    | refine ite_L (fun _ => ?_) (fun _ => ?_)
theorem d113 : Sound Try.prog ⟨113, false, Q113⟩ := sound_of ⟨_, Try.func113, by kernel_rfl, by kernel_rfl⟩ fun k args hp Z K z h => by
  unfold Q113 at h
  split at h
  · obtain ⟨r, hr, hK⟩ := Option.bind_eq_some_iff.1 h
    exact ⟨_, hK, g113 k _ _ _ r hr⟩
  · cases h
def o102 (l0 : List S93) (r : Int) : Out Rw := ⟨[.c (.sc (.i .i64 r))], [.rows 0 (.e93 l0)]⟩
def Q102 : Mean Rw := fun k a h Z K => match a, h with
  | [.w (.c (.rw 0)), .w (.c (.sc (.i .i64 a1))), .w (.c (.sc (.i .i64 a2)))], [.rows 0 (.e93 l0)] => (impl_balOf.f k l0 a1 a2).bind fun r => K (o102 l0 r)
  | _, _ => none
def O102 : List (Cal Rw) := [⟨113, false, Q113⟩]
theorem O102_ok : ∀ c ∈ O102, Sound Try.prog c := by
  intro c hc
  simp only [O102, List.mem_cons, List.not_mem_nil, or_false] at hc
  rcases hc with rfl
  · exact d113
def K102 : List (Cut Rw) := []
theorem z102_ok : ∀ c ∈ K102, ∀ st, c.f 0 st = none := by
  intro c hc st
  simp only [K102, List.mem_cons, List.not_mem_nil, or_false] at hc
theorem h102_ok : ∀ c ∈ K102, ∀ k st out, c.f (k + 1) st = some out → seg Try.prog O102 K102 k (body Try.f102) (kEnd Try.prog Try.f102.results.toList) c.p st = some out := by
  intro c hc k st out h
  simp only [K102, List.mem_cons, List.not_mem_nil, or_false] at hc
theorem g102 (k : Nat) (l0 : List (S93)) (a1 : Int) (a2 : Int) (r : Int) (h : impl_balOf.f k l0 a1 a2 = some r) : Good Try.prog 102 [.w (.c (.rw 0)), .w (.c (.sc (.i .i64 a1))), .w (.c (.sc (.i .i64 a2)))] [.rows 0 (.e93 l0)] (o102 l0 r) := by
  refine fn_ok (k := k) O102_ok mixed Try.func102 (root := body Try.f102) (by kernel_rfl) z102_ok h102_ok ?_
  refine Lo.of (b := ((impl_balAt.f k l0 a1 a2).bind fun r4 => (if r4.2 = true then (if 0 ≤ r4.1 then (if r4.1 < (l0.length : Int) then (some (o102 l0 ((rd_T93 l0 r4.1).f2))) else none) else none) else (some (o102 l0 0))))) (c := (impl_balOf.f k l0 a1 a2).bind fun r => some (o102 l0 r)) (by kernel_rfl) ?_ _ (by rw [h]; rfl)
  · unfold impl_balOf.f
    repeat' first
    | with_reducible exact none_L
    | with_reducible refine letB_L (fun _ _ => ?_)
    | with_reducible refine bind_L (fun _ => ?_)
    | with_reducible refine ite_L (fun _ => ?_) (fun _ => ?_)
    | with_reducible refine drop_L (by first | assumption | omega | (simp only [*, List.length_set]; done)) ?_
    | with_reducible refine let_L ?_
    | with_reducible refine some_L ?_
    | with_reducible refine letT_L ?_
    | with_reducible refine ite_I (by omega) (fun _ => ?_) (fun _ => ?_)
    | rfl
    | simp only [Bool.decide_eq_true]
    | exact Lo.refl _
    | (refine Lo.eq ?_; simp only [Bool.decide_eq_true]; done)
    | refine ite_L (fun _ => ?_) (fun _ => ?_)
theorem d102 : Sound Try.prog ⟨102, false, Q102⟩ := sound_of ⟨_, Try.func102, by kernel_rfl, by kernel_rfl⟩ fun k args hp Z K z h => by
  unfold Q102 at h
  split at h
  · obtain ⟨r, hr, hK⟩ := Option.bind_eq_some_iff.1 h
    exact ⟨_, hK, g102 k _ _ _ r hr⟩
  · cases h
def o71 (l0_0 : List S88) (l0_1 : List S90) (l0_2 : List S93) (l0_3 : List S96) (l0_4 : List S50) (r : Bool) : Out Rw := ⟨[.c (.sc (.b r))], [.rows 0 (.e88 l0_0), .rows 0 (.e90 l0_1), .rows 0 (.e93 l0_2), .rows 0 (.e96 l0_3), .rows 0 (.e50 l0_4)]⟩
def Q71 : Mean Rw := fun k a h Z K => match a, h with
  | [.w (.ag [.rw 0, .rw 1, .rw 2, .rw 3, .rw 4, .sc (.i .i64 a0_5)])], [.rows 0 (.e88 l0_0), .rows 0 (.e90 l0_1), .rows 0 (.e93 l0_2), .rows 0 (.e96 l0_3), .rows 0 (.e50 l0_4)] => (impl_lotsRight.f k l0_0 l0_1 l0_2 l0_3 l0_4 a0_5).bind fun r => K (o71 l0_0 l0_1 l0_2 l0_3 l0_4 r)
  | _, _ => none
def O71 : List (Cal Rw) := [⟨99, false, Q99⟩, ⟨100, false, Q100⟩, ⟨98, false, Q98⟩, ⟨97, false, Q97⟩, ⟨102, false, Q102⟩]
theorem O71_ok : ∀ c ∈ O71, Sound Try.prog c := by
  intro c hc
  simp only [O71, List.mem_cons, List.not_mem_nil, or_false] at hc
  rcases hc with rfl | rfl | rfl | rfl | rfl
  · exact d99
  · exact d100
  · exact d98
  · exact d97
  · exact d102
def C71_0 : Nat → St Rw → Option (Out Rw) := fun k st => match st with
  | ⟨84, 5, 6, [(1, .pt 5 0), (12, .w (.c (.rw 3))), (13, .w (.c (.sc (.i .i64 x13)))), (14, .w (.c (.sc (.i .i64 x14))))], [(0, .rows 0 (.e88 l0_0)), (1, .rows 0 (.e90 l0_1)), (2, .rows 0 (.e93 l0_2)), (3, .rows 0 (.e96 l0_3)), (4, .rows 0 (.e50 l0_4)), (5, .box 34 [.rw 0, .rw 1, .rw 2, .rw 3, .rw 4, .sc (.i .i64 b5_5)])]⟩ => (impl_lotsRight.l0 k l0_3 x13 x14 l0_0 l0_1 l0_2 l0_3 l0_4 b5_5).bind fun r => some (o71 l0_0 l0_1 l0_2 l0_3 l0_4 r)
  | _ => none
def C71_1 : Nat → St Rw → Option (Out Rw) := fun k st => match st with
  | ⟨84, 5, 6, [(1, .pt 5 0), (41, .w (.c (.rw 0))), (42, .w (.c (.sc (.i .i64 x42)))), (43, .w (.c (.sc (.i .i64 x43))))], [(0, .rows 0 (.e88 l0_0)), (1, .rows 0 (.e90 l0_1)), (2, .rows 0 (.e93 l0_2)), (3, .rows 0 (.e96 l0_3)), (4, .rows 0 (.e50 l0_4)), (5, .box 34 [.rw 0, .rw 1, .rw 2, .rw 3, .rw 4, .sc (.i .i64 b5_5)])]⟩ => (impl_lotsRight.l1 k l0_0 x42 x43 l0_0 l0_1 l0_2 l0_3 l0_4 b5_5).bind fun r => some (o71 l0_0 l0_1 l0_2 l0_3 l0_4 r)
  | _ => none
def C71_2 : Nat → St Rw → Option (Out Rw) := fun k st => match st with
  | ⟨84, 5, 7, [(1, .pt 5 0), (6, .pt 6 0), (41, .w (.c (.rw 0))), (42, .w (.c (.sc (.i .i64 x42)))), (43, .w (.c (.sc (.i .i64 x43)))), (48, .w (.c (.rw 1))), (49, .w (.c (.sc (.i .i64 x49)))), (50, .w (.c (.sc (.i .i64 x50))))], [(0, .rows 0 (.e88 l0_0)), (1, .rows 0 (.e90 l0_1)), (2, .rows 0 (.e93 l0_2)), (3, .rows 0 (.e96 l0_3)), (4, .rows 0 (.e50 l0_4)), (5, .box 34 [.rw 0, .rw 1, .rw 2, .rw 3, .rw 4, .sc (.i .i64 b5_5)]), (6, .box 88 [.sc (.i .i64 b6_0), .sc (.i .i64 b6_1)])]⟩ => (impl_lotsRight.l2 k l0_0 x42 x43 l0_1 x49 x50 l0_0 l0_1 l0_2 l0_3 l0_4 b5_5 b6_0 b6_1).bind fun r => some (o71 l0_0 l0_1 l0_2 l0_3 l0_4 r)
  | _ => none
def C71_3 : Nat → St Rw → Option (Out Rw) := fun k st => match st with
  | ⟨84, 5, 8, [(1, .pt 5 0), (6, .pt 6 0), (8, .pt 7 0), (41, .w (.c (.rw 0))), (42, .w (.c (.sc (.i .i64 x42)))), (43, .w (.c (.sc (.i .i64 x43)))), (48, .w (.c (.rw 1))), (49, .w (.c (.sc (.i .i64 x49)))), (50, .w (.c (.sc (.i .i64 x50)))), (61, .w (.c (.sc (.b x61))))], [(0, .rows 0 (.e88 l0_0)), (1, .rows 0 (.e90 l0_1)), (2, .rows 0 (.e93 l0_2)), (3, .rows 0 (.e96 l0_3)), (4, .rows 0 (.e50 l0_4)), (5, .box 34 [.rw 0, .rw 1, .rw 2, .rw 3, .rw 4, .sc (.i .i64 b5_5)]), (6, .box 88 [.sc (.i .i64 b6_0), .sc (.i .i64 b6_1)]), (7, .box 90 [.sc (.i .i64 b7_0), .sc (.i .i64 b7_1)])]⟩ => (impl_lotsRight.j3 k l0_0 x42 x43 l0_1 x49 x50 x61 l0_0 l0_1 l0_2 l0_3 l0_4 b5_5 b6_0 b6_1 b7_0 b7_1).bind fun r => some (o71 l0_0 l0_1 l0_2 l0_3 l0_4 r)
  | _ => none
def K71 : List (Cut Rw) := [⟨[false, true, false, true], [1, 12, 13, 14], C71_0⟩, ⟨[false, true, false, true, true], [1, 41, 42, 43], C71_1⟩, ⟨[false, true, true, false, false, true, true, false, false, true, false, true, true], [1, 6, 41, 42, 43, 48, 49, 50], C71_2⟩, ⟨[true, false, true, false, false, true, true, false, false, true, true, false, false, true, true, false, false, true, false, true, true], [1, 6, 8, 41, 42, 43, 48, 49, 50, 61], C71_3⟩]
theorem e71_0 (k : Nat) (x13 : Int) (x14 : Int) (l0_0 : List S88) (l0_1 : List S90) (l0_2 : List S93) (l0_3 : List S96) (l0_4 : List S50) (b5_5 : Int) : Lo (seg Try.prog O71 K71 k (body Try.f71) (kEnd Try.prog Try.f71.results.toList) [false, true, false, true] ⟨84, 5, 6, [(1, .pt 5 0), (12, .w (.c (.rw 3))), (13, .w (.c (.sc (.i .i64 x13)))), (14, .w (.c (.sc (.i .i64 x14))))], [(0, .rows 0 (.e88 l0_0)), (1, .rows 0 (.e90 l0_1)), (2, .rows 0 (.e93 l0_2)), (3, .rows 0 (.e96 l0_3)), (4, .rows 0 (.e50 l0_4)), (5, .box 34 [.rw 0, .rw 1, .rw 2, .rw 3, .rw 4, .sc (.i .i64 b5_5)])]⟩) ((impl_lotsRight.l0 (k + 1) l0_3 x13 x14 l0_0 l0_1 l0_2 l0_3 l0_4 b5_5).bind fun r => some (o71 l0_0 l0_1 l0_2 l0_3 l0_4 r)) :=
  Lo.of (b := (if x14 < x13 then (if 0 ≤ x14 then (if x14 < (l0_3.length : Int) then ((impl_accountKind.f k l0_0 (rd_T96 l0_3 x14).f0).bind fun r9 => (if r9 = 1 then ((impl_instrKind.f k l0_1 (rd_T96 l0_3 x14).f1).bind fun r10 => (if r10 = 2 then (if (rd_T96 l0_3 x14).f2 > b5_5 then (some (o71 l0_0 l0_1 l0_2 l0_3 l0_4 false)) else ((impl_lotsRight.l0 k l0_3 x13 (RowKit.wrap64 (x14 + 1)) l0_0 l0_1 l0_2 l0_3 l0_4 b5_5).bind fun r => some (o71 l0_0 l0_1 l0_2 l0_3 l0_4 r))) else (some (o71 l0_0 l0_1 l0_2 l0_3 l0_4 false)))) else (some (o71 l0_0 l0_1 l0_2 l0_3 l0_4 false)))) else none) else none) else ((impl_lotsRight.l1 k l0_0 ((l0_0.length : Int)) 0 l0_0 l0_1 l0_2 l0_3 l0_4 b5_5).bind fun r => some (o71 l0_0 l0_1 l0_2 l0_3 l0_4 r)))) (by kernel_rfl) (by
    rw [impl_lotsRight.l0]
    repeat' first
    | with_reducible exact none_L
    | with_reducible refine letB_L (fun _ _ => ?_)
    | with_reducible refine bind_L (fun _ => ?_)
    | with_reducible refine ite_L (fun _ => ?_) (fun _ => ?_)
    | with_reducible refine drop_L (by first | assumption | omega | (simp only [*, List.length_set]; done)) ?_
    | with_reducible refine let_L ?_
    | with_reducible refine some_L ?_
    | with_reducible refine letT_L ?_
    | with_reducible refine ite_I (by omega) (fun _ => ?_) (fun _ => ?_)
    | rfl
    | simp only [Bool.decide_eq_true]
    | exact Lo.refl _
    | (refine Lo.eq ?_; simp only [Bool.decide_eq_true]; done)
    | refine ite_L (fun _ => ?_) (fun _ => ?_))
theorem h71_0 (k : Nat) (st : St Rw) (out : Out Rw) (h : C71_0 (k + 1) st = some out) : seg Try.prog O71 K71 k (body Try.f71) (kEnd Try.prog Try.f71.results.toList) [false, true, false, true] st = some out := by
  unfold C71_0 at h
  split at h
  · exact e71_0 _ _ _ _ _ _ _ _ _ out h
  · cases h
theorem e71_1 (k : Nat) (x42 : Int) (x43 : Int) (l0_0 : List S88) (l0_1 : List S90) (l0_2 : List S93) (l0_3 : List S96) (l0_4 : List S50) (b5_5 : Int) : Lo (seg Try.prog O71 K71 k (body Try.f71) (kEnd Try.prog Try.f71.results.toList) [false, true, false, true, true] ⟨84, 5, 6, [(1, .pt 5 0), (41, .w (.c (.rw 0))), (42, .w (.c (.sc (.i .i64 x42)))), (43, .w (.c (.sc (.i .i64 x43))))], [(0, .rows 0 (.e88 l0_0)), (1, .rows 0 (.e90 l0_1)), (2, .rows 0 (.e93 l0_2)), (3, .rows 0 (.e96 l0_3)), (4, .rows 0 (.e50 l0_4)), (5, .box 34 [.rw 0, .rw 1, .rw 2, .rw 3, .rw 4, .sc (.i .i64 b5_5)])]⟩) ((impl_lotsRight.l1 (k + 1) l0_0 x42 x43 l0_0 l0_1 l0_2 l0_3 l0_4 b5_5).bind fun r => some (o71 l0_0 l0_1 l0_2 l0_3 l0_4 r)) :=
  Lo.of (b := (if x43 < x42 then (if 0 ≤ x43 then (if x43 < (l0_0.length : Int) then ((impl_lotsRight.l2 k l0_0 x42 x43 l0_1 ((l0_1.length : Int)) 0 l0_0 l0_1 l0_2 l0_3 l0_4 b5_5 ((rd_T88 l0_0 x43).f0) ((rd_T88 l0_0 x43).f1)).bind fun r => some (o71 l0_0 l0_1 l0_2 l0_3 l0_4 r)) else none) else none) else (some (o71 l0_0 l0_1 l0_2 l0_3 l0_4 true)))) (by kernel_rfl) (by
    rw [impl_lotsRight.l1]
    repeat' first
    | with_reducible exact none_L
    | with_reducible refine letB_L (fun _ _ => ?_)
    | with_reducible refine bind_L (fun _ => ?_)
    | with_reducible refine ite_L (fun _ => ?_) (fun _ => ?_)
    | with_reducible refine drop_L (by first | assumption | omega | (simp only [*, List.length_set]; done)) ?_
    | with_reducible refine let_L ?_
    | with_reducible refine some_L ?_
    | with_reducible refine letT_L ?_
    | with_reducible refine ite_I (by omega) (fun _ => ?_) (fun _ => ?_)
    | rfl
    | simp only [Bool.decide_eq_true]
    | exact Lo.refl _
    | (refine Lo.eq ?_; simp only [Bool.decide_eq_true]; done)
    | refine ite_L (fun _ => ?_) (fun _ => ?_))
theorem h71_1 (k : Nat) (st : St Rw) (out : Out Rw) (h : C71_1 (k + 1) st = some out) : seg Try.prog O71 K71 k (body Try.f71) (kEnd Try.prog Try.f71.results.toList) [false, true, false, true, true] st = some out := by
  unfold C71_1 at h
  split at h
  · exact e71_1 _ _ _ _ _ _ _ _ _ out h
  · cases h
theorem e71_2 (k : Nat) (x42 : Int) (x43 : Int) (x49 : Int) (x50 : Int) (l0_0 : List S88) (l0_1 : List S90) (l0_2 : List S93) (l0_3 : List S96) (l0_4 : List S50) (b5_5 : Int) (b6_0 : Int) (b6_1 : Int) : Lo (seg Try.prog O71 K71 k (body Try.f71) (kEnd Try.prog Try.f71.results.toList) [false, true, true, false, false, true, true, false, false, true, false, true, true] ⟨84, 5, 7, [(1, .pt 5 0), (6, .pt 6 0), (41, .w (.c (.rw 0))), (42, .w (.c (.sc (.i .i64 x42)))), (43, .w (.c (.sc (.i .i64 x43)))), (48, .w (.c (.rw 1))), (49, .w (.c (.sc (.i .i64 x49)))), (50, .w (.c (.sc (.i .i64 x50))))], [(0, .rows 0 (.e88 l0_0)), (1, .rows 0 (.e90 l0_1)), (2, .rows 0 (.e93 l0_2)), (3, .rows 0 (.e96 l0_3)), (4, .rows 0 (.e50 l0_4)), (5, .box 34 [.rw 0, .rw 1, .rw 2, .rw 3, .rw 4, .sc (.i .i64 b5_5)]), (6, .box 88 [.sc (.i .i64 b6_0), .sc (.i .i64 b6_1)])]⟩) ((impl_lotsRight.l2 (k + 1) l0_0 x42 x43 l0_1 x49 x50 l0_0 l0_1 l0_2 l0_3 l0_4 b5_5 b6_0 b6_1).bind fun r => some (o71 l0_0 l0_1 l0_2 l0_3 l0_4 r)) :=
  Lo.of (b := (if x50 < x49 then (if 0 ≤ x50 then (if x50 < (l0_1.length : Int) then (if b6_1 = 1 then ((impl_lotsRight.j3 k l0_0 x42 x43 l0_1 x49 x50 (!decide ((rd_T90 l0_1 x50).f1 = 2)) l0_0 l0_1 l0_2 l0_3 l0_4 b5_5 b6_0 b6_1 ((rd_T90 l0_1 x50).f0) ((rd_T90 l0_1 x50).f1)).bind fun r => some (o71 l0_0 l0_1 l0_2 l0_3 l0_4 r)) else ((impl_lotsRight.j3 k l0_0 x42 x43 l0_1 x49 x50 true l0_0 l0_1 l0_2 l0_3 l0_4 b5_5 b6_0 b6_1 ((rd_T90 l0_1 x50).f0) ((rd_T90 l0_1 x50).f1)).bind fun r => some (o71 l0_0 l0_1 l0_2 l0_3 l0_4 r))) else none) else none) else ((impl_lotsRight.l1 k l0_0 x42 (RowKit.wrap64 (x43 + 1)) l0_0 l0_1 l0_2 l0_3 l0_4 b5_5).bind fun r => some (o71 l0_0 l0_1 l0_2 l0_3 l0_4 r)))) (by kernel_rfl) (by
    rw [impl_lotsRight.l2]
    repeat' first
    | with_reducible exact none_L
    | with_reducible refine letB_L (fun _ _ => ?_)
    | with_reducible refine bind_L (fun _ => ?_)
    | with_reducible refine ite_L (fun _ => ?_) (fun _ => ?_)
    | with_reducible refine drop_L (by first | assumption | omega | (simp only [*, List.length_set]; done)) ?_
    | with_reducible refine let_L ?_
    | with_reducible refine some_L ?_
    | with_reducible refine letT_L ?_
    | with_reducible refine ite_I (by omega) (fun _ => ?_) (fun _ => ?_)
    | rfl
    | simp only [Bool.decide_eq_true]
    | exact Lo.refl _
    | (refine Lo.eq ?_; simp only [Bool.decide_eq_true]; done)
    | refine ite_L (fun _ => ?_) (fun _ => ?_))
theorem h71_2 (k : Nat) (st : St Rw) (out : Out Rw) (h : C71_2 (k + 1) st = some out) : seg Try.prog O71 K71 k (body Try.f71) (kEnd Try.prog Try.f71.results.toList) [false, true, true, false, false, true, true, false, false, true, false, true, true] st = some out := by
  unfold C71_2 at h
  split at h
  · exact e71_2 _ _ _ _ _ _ _ _ _ _ _ _ _ out h
  · cases h
theorem e71_3 (k : Nat) (x42 : Int) (x43 : Int) (x49 : Int) (x50 : Int) (x61 : Bool) (l0_0 : List S88) (l0_1 : List S90) (l0_2 : List S93) (l0_3 : List S96) (l0_4 : List S50) (b5_5 : Int) (b6_0 : Int) (b6_1 : Int) (b7_0 : Int) (b7_1 : Int) : Lo (seg Try.prog O71 K71 k (body Try.f71) (kEnd Try.prog Try.f71.results.toList) [true, false, true, false, false, true, true, false, false, true, true, false, false, true, true, false, false, true, false, true, true] ⟨84, 5, 8, [(1, .pt 5 0), (6, .pt 6 0), (8, .pt 7 0), (41, .w (.c (.rw 0))), (42, .w (.c (.sc (.i .i64 x42)))), (43, .w (.c (.sc (.i .i64 x43)))), (48, .w (.c (.rw 1))), (49, .w (.c (.sc (.i .i64 x49)))), (50, .w (.c (.sc (.i .i64 x50)))), (61, .w (.c (.sc (.b x61))))], [(0, .rows 0 (.e88 l0_0)), (1, .rows 0 (.e90 l0_1)), (2, .rows 0 (.e93 l0_2)), (3, .rows 0 (.e96 l0_3)), (4, .rows 0 (.e50 l0_4)), (5, .box 34 [.rw 0, .rw 1, .rw 2, .rw 3, .rw 4, .sc (.i .i64 b5_5)]), (6, .box 88 [.sc (.i .i64 b6_0), .sc (.i .i64 b6_1)]), (7, .box 90 [.sc (.i .i64 b7_0), .sc (.i .i64 b7_1)])]⟩) ((impl_lotsRight.j3 (k + 1) l0_0 x42 x43 l0_1 x49 x50 x61 l0_0 l0_1 l0_2 l0_3 l0_4 b5_5 b6_0 b6_1 b7_0 b7_1).bind fun r => some (o71 l0_0 l0_1 l0_2 l0_3 l0_4 r)) :=
  Lo.of (b := (if x61 = true then ((impl_lotsRight.l2 k l0_0 x42 x43 l0_1 x49 (RowKit.wrap64 (x50 + 1)) l0_0 l0_1 l0_2 l0_3 l0_4 b5_5 b6_0 b6_1).bind fun r => some (o71 l0_0 l0_1 l0_2 l0_3 l0_4 r)) else ((impl_lotsOf.f l0_3 b6_0 b7_0).bind fun r16 => ((impl_sumLots.f k r16).bind fun r17 => ((impl_balOf.f k l0_2 b6_0 b7_0).bind fun r18 => (if r17.1 = r18 then ((impl_lotsRight.l2 k l0_0 x42 x43 l0_1 x49 (RowKit.wrap64 (x50 + 1)) l0_0 l0_1 l0_2 l0_3 l0_4 b5_5 b6_0 b6_1).bind fun r => some (o71 l0_0 l0_1 l0_2 l0_3 l0_4 r)) else (some (o71 l0_0 l0_1 l0_2 l0_3 l0_4 false)))))))) (by kernel_rfl) (by
    rw [impl_lotsRight.j3]
    repeat' first
    | with_reducible exact none_L
    | with_reducible refine letB_L (fun _ _ => ?_)
    | with_reducible refine bind_L (fun _ => ?_)
    | with_reducible refine ite_L (fun _ => ?_) (fun _ => ?_)
    | with_reducible refine drop_L (by first | assumption | omega | (simp only [*, List.length_set]; done)) ?_
    | with_reducible refine let_L ?_
    | with_reducible refine some_L ?_
    | with_reducible refine letT_L ?_
    | with_reducible refine ite_I (by omega) (fun _ => ?_) (fun _ => ?_)
    | rfl
    | simp only [Bool.decide_eq_true]
    | exact Lo.refl _
    | (refine Lo.eq ?_; simp only [Bool.decide_eq_true]; done)
    | refine ite_L (fun _ => ?_) (fun _ => ?_))
theorem h71_3 (k : Nat) (st : St Rw) (out : Out Rw) (h : C71_3 (k + 1) st = some out) : seg Try.prog O71 K71 k (body Try.f71) (kEnd Try.prog Try.f71.results.toList) [true, false, true, false, false, true, true, false, false, true, true, false, false, true, true, false, false, true, false, true, true] st = some out := by
  unfold C71_3 at h
  split at h
  · exact e71_3 _ _ _ _ _ _ _ _ _ _ _ _ _ _ _ _ out h
  · cases h
theorem z71_ok : ∀ c ∈ K71, ∀ st, c.f 0 st = none := by
  intro c hc st
  simp only [K71, List.mem_cons, List.not_mem_nil, or_false] at hc
  rcases hc with rfl | rfl | rfl | rfl
  · show C71_0 0 st = none; unfold C71_0; split <;> rfl
  · show C71_1 0 st = none; unfold C71_1; split <;> rfl
  · show C71_2 0 st = none; unfold C71_2; split <;> rfl
  · show C71_3 0 st = none; unfold C71_3; split <;> rfl
theorem h71_ok : ∀ c ∈ K71, ∀ k st out, c.f (k + 1) st = some out → seg Try.prog O71 K71 k (body Try.f71) (kEnd Try.prog Try.f71.results.toList) c.p st = some out := by
  intro c hc k st out h
  simp only [K71, List.mem_cons, List.not_mem_nil, or_false] at hc
  rcases hc with rfl | rfl | rfl | rfl
  · exact h71_0 k st out h
  · exact h71_1 k st out h
  · exact h71_2 k st out h
  · exact h71_3 k st out h
theorem g71 (k : Nat) (l0_0 : List (S88)) (l0_1 : List (S90)) (l0_2 : List (S93)) (l0_3 : List (S96)) (l0_4 : List (S50)) (a0_5 : Int) (r : Bool) (h : impl_lotsRight.f k l0_0 l0_1 l0_2 l0_3 l0_4 a0_5 = some r) : Good Try.prog 71 [.w (.ag [.rw 0, .rw 1, .rw 2, .rw 3, .rw 4, .sc (.i .i64 a0_5)])] [.rows 0 (.e88 l0_0), .rows 0 (.e90 l0_1), .rows 0 (.e93 l0_2), .rows 0 (.e96 l0_3), .rows 0 (.e50 l0_4)] (o71 l0_0 l0_1 l0_2 l0_3 l0_4 r) := by
  refine fn_ok (k := k) O71_ok mixed Try.func71 (root := body Try.f71) (by kernel_rfl) z71_ok h71_ok ?_
  refine Lo.of (b := ((impl_lotsRight.l0 k l0_3 ((l0_3.length : Int)) 0 l0_0 l0_1 l0_2 l0_3 l0_4 a0_5).bind fun r => some (o71 l0_0 l0_1 l0_2 l0_3 l0_4 r))) (c := (impl_lotsRight.f k l0_0 l0_1 l0_2 l0_3 l0_4 a0_5).bind fun r => some (o71 l0_0 l0_1 l0_2 l0_3 l0_4 r)) (by kernel_rfl) ?_ _ (by rw [h]; rfl)
  · unfold impl_lotsRight.f
    repeat' first
    | with_reducible exact none_L
    | with_reducible refine letB_L (fun _ _ => ?_)
    | with_reducible refine bind_L (fun _ => ?_)
    | with_reducible refine ite_L (fun _ => ?_) (fun _ => ?_)
    | with_reducible refine drop_L (by first | assumption | omega | (simp only [*, List.length_set]; done)) ?_
    | with_reducible refine let_L ?_
    | with_reducible refine some_L ?_
    | with_reducible refine letT_L ?_
    | with_reducible refine ite_I (by omega) (fun _ => ?_) (fun _ => ?_)
    | rfl
    | simp only [Bool.decide_eq_true]
    | exact Lo.refl _
    | (refine Lo.eq ?_; simp only [Bool.decide_eq_true]; done)
    | refine ite_L (fun _ => ?_) (fun _ => ?_)
theorem d71 : Sound Try.prog ⟨71, false, Q71⟩ := sound_of ⟨_, Try.func71, by kernel_rfl, by kernel_rfl⟩ fun k args hp Z K z h => by
  unfold Q71 at h
  split at h
  · obtain ⟨r, hr, hK⟩ := Option.bind_eq_some_iff.1 h
    exact ⟨_, hK, g71 k _ _ _ _ _ _ r hr⟩
  · cases h
def o21 (l0_0 : List S88) (l0_1 : List S90) (l0_2 : List S93) (l0_3 : List S96) (l0_4 : List S50) (r : Bool) : Out Rw := ⟨[.c (.sc (.b r))], [.rows 0 (.e88 l0_0), .rows 0 (.e90 l0_1), .rows 0 (.e93 l0_2), .rows 0 (.e96 l0_3), .rows 0 (.e50 l0_4)]⟩
def Q21 : Mean Rw := fun k a h Z K => match a, h with
  | [.w (.ag [.rw 0, .rw 1, .rw 2, .rw 3, .rw 4, .sc (.i .i64 a0_5)])], [.rows 0 (.e88 l0_0), .rows 0 (.e90 l0_1), .rows 0 (.e93 l0_2), .rows 0 (.e96 l0_3), .rows 0 (.e50 l0_4)] => (impl_BooksOk.f k l0_0 l0_1 l0_2 l0_3 l0_4 a0_5).bind fun r => K (o21 l0_0 l0_1 l0_2 l0_3 l0_4 r)
  | _, _ => none
def O21 : List (Cal Rw) := [⟨66, false, Q66⟩, ⟨67, false, Q67⟩, ⟨68, false, Q68⟩, ⟨69, false, Q69⟩, ⟨11, false, Q11⟩, ⟨35, false, Q35⟩, ⟨70, false, Q70⟩, ⟨71, false, Q71⟩, ⟨72, false, Q72⟩]
theorem O21_ok : ∀ c ∈ O21, Sound Try.prog c := by
  intro c hc
  simp only [O21, List.mem_cons, List.not_mem_nil, or_false] at hc
  rcases hc with rfl | rfl | rfl | rfl | rfl | rfl | rfl | rfl | rfl
  · exact d66
  · exact d67
  · exact d68
  · exact d69
  · exact d11
  · exact d35
  · exact d70
  · exact d71
  · exact d72
def C21_0 : Nat → St Rw → Option (Out Rw) := fun k st => match st with
  | ⟨47, 5, 6, [(1, .pt 5 0), (36, .w (.c (.sc (.b x36))))], [(0, .rows 0 (.e88 l0_0)), (1, .rows 0 (.e90 l0_1)), (2, .rows 0 (.e93 l0_2)), (3, .rows 0 (.e96 l0_3)), (4, .rows 0 (.e50 l0_4)), (5, .box 34 [.rw 0, .rw 1, .rw 2, .rw 3, .rw 4, .sc (.i .i64 b5_5)])]⟩ => (impl_BooksOk.j0 k x36 l0_0 l0_1 l0_2 l0_3 l0_4 b5_5).bind fun r => some (o21 l0_0 l0_1 l0_2 l0_3 l0_4 r)
  | _ => none
def K21 : List (Cut Rw) := [⟨[true, false, true], [1, 36], C21_0⟩]
theorem e21_0 (k : Nat) (x36 : Bool) (l0_0 : List S88) (l0_1 : List S90) (l0_2 : List S93) (l0_3 : List S96) (l0_4 : List S50) (b5_5 : Int) : Lo (seg Try.prog O21 K21 k (body Try.f21) (kEnd Try.prog Try.f21.results.toList) [true, false, true] ⟨47, 5, 6, [(1, .pt 5 0), (36, .w (.c (.sc (.b x36))))], [(0, .rows 0 (.e88 l0_0)), (1, .rows 0 (.e90 l0_1)), (2, .rows 0 (.e93 l0_2)), (3, .rows 0 (.e96 l0_3)), (4, .rows 0 (.e50 l0_4)), (5, .box 34 [.rw 0, .rw 1, .rw 2, .rw 3, .rw 4, .sc (.i .i64 b5_5)])]⟩) ((impl_BooksOk.j0 (k + 1) x36 l0_0 l0_1 l0_2 l0_3 l0_4 b5_5).bind fun r => some (o21 l0_0 l0_1 l0_2 l0_3 l0_4 r)) :=
  Lo.of (b := (if x36 = true then (some (o21 l0_0 l0_1 l0_2 l0_3 l0_4 false)) else ((impl_balsRight.f k l0_0 l0_1 l0_2 l0_3 l0_4 b5_5).bind fun r8 => (if r8 = true then ((impl_lotsRight.f k l0_0 l0_1 l0_2 l0_3 l0_4 b5_5).bind fun r9 => (if r9 = true then ((impl_tradesRight.f l0_0 l0_1 l0_2 l0_3 l0_4 b5_5).bind fun r10 => (some (o21 l0_0 l0_1 l0_2 l0_3 l0_4 r10))) else (some (o21 l0_0 l0_1 l0_2 l0_3 l0_4 false)))) else (some (o21 l0_0 l0_1 l0_2 l0_3 l0_4 false)))))) (by kernel_rfl) (by
    rw [impl_BooksOk.j0]
    repeat' first
    | with_reducible exact none_L
    | with_reducible refine letB_L (fun _ _ => ?_)
    | with_reducible refine bind_L (fun _ => ?_)
    | with_reducible refine ite_L (fun _ => ?_) (fun _ => ?_)
    | with_reducible refine drop_L (by first | assumption | omega | (simp only [*, List.length_set]; done)) ?_
    | with_reducible refine let_L ?_
    | with_reducible refine some_L ?_
    | with_reducible refine letT_L ?_
    | with_reducible refine ite_I (by omega) (fun _ => ?_) (fun _ => ?_)
    | rfl
    | simp only [Bool.decide_eq_true]
    | exact Lo.refl _
    | (refine Lo.eq ?_; simp only [Bool.decide_eq_true]; done)
    | refine ite_L (fun _ => ?_) (fun _ => ?_))
theorem h21_0 (k : Nat) (st : St Rw) (out : Out Rw) (h : C21_0 (k + 1) st = some out) : seg Try.prog O21 K21 k (body Try.f21) (kEnd Try.prog Try.f21.results.toList) [true, false, true] st = some out := by
  unfold C21_0 at h
  split at h
  · exact e21_0 _ _ _ _ _ _ _ _ out h
  · cases h
theorem z21_ok : ∀ c ∈ K21, ∀ st, c.f 0 st = none := by
  intro c hc st
  simp only [K21, List.mem_cons, List.not_mem_nil, or_false] at hc
  rcases hc with rfl
  · show C21_0 0 st = none; unfold C21_0; split <;> rfl
theorem h21_ok : ∀ c ∈ K21, ∀ k st out, c.f (k + 1) st = some out → seg Try.prog O21 K21 k (body Try.f21) (kEnd Try.prog Try.f21.results.toList) c.p st = some out := by
  intro c hc k st out h
  simp only [K21, List.mem_cons, List.not_mem_nil, or_false] at hc
  rcases hc with rfl
  · exact h21_0 k st out h
theorem g21 (k : Nat) (l0_0 : List (S88)) (l0_1 : List (S90)) (l0_2 : List (S93)) (l0_3 : List (S96)) (l0_4 : List (S50)) (a0_5 : Int) (r : Bool) (h : impl_BooksOk.f k l0_0 l0_1 l0_2 l0_3 l0_4 a0_5 = some r) : Good Try.prog 21 [.w (.ag [.rw 0, .rw 1, .rw 2, .rw 3, .rw 4, .sc (.i .i64 a0_5)])] [.rows 0 (.e88 l0_0), .rows 0 (.e90 l0_1), .rows 0 (.e93 l0_2), .rows 0 (.e96 l0_3), .rows 0 (.e50 l0_4)] (o21 l0_0 l0_1 l0_2 l0_3 l0_4 r) := by
  refine fn_ok (k := k) O21_ok mixed Try.func21 (root := body Try.f21) (by kernel_rfl) z21_ok h21_ok ?_
  refine Lo.of (b := ((impl_AccountsOk.f k l0_0).bind fun r7 => (if r7 = true then ((impl_InstrsOk.f k l0_1).bind fun r8 => (if r8 = true then ((impl_BalsOk.f k l0_2).bind fun r9 => (if r9 = true then ((impl_LotsOk.f l0_3).bind fun r10 => (if r10 = true then ((impl_TradesOk.f k l0_4).bind fun r11 => (if r11 = true then ((impl_in.f a0_5 0 1000000000).bind fun r12 => ((impl_BooksOk.j0 k (!decide (r12 = true)) l0_0 l0_1 l0_2 l0_3 l0_4 a0_5).bind fun r => some (o21 l0_0 l0_1 l0_2 l0_3 l0_4 r))) else ((impl_BooksOk.j0 k true l0_0 l0_1 l0_2 l0_3 l0_4 a0_5).bind fun r => some (o21 l0_0 l0_1 l0_2 l0_3 l0_4 r)))) else ((impl_BooksOk.j0 k true l0_0 l0_1 l0_2 l0_3 l0_4 a0_5).bind fun r => some (o21 l0_0 l0_1 l0_2 l0_3 l0_4 r)))) else ((impl_BooksOk.j0 k true l0_0 l0_1 l0_2 l0_3 l0_4 a0_5).bind fun r => some (o21 l0_0 l0_1 l0_2 l0_3 l0_4 r)))) else ((impl_BooksOk.j0 k true l0_0 l0_1 l0_2 l0_3 l0_4 a0_5).bind fun r => some (o21 l0_0 l0_1 l0_2 l0_3 l0_4 r)))) else ((impl_BooksOk.j0 k true l0_0 l0_1 l0_2 l0_3 l0_4 a0_5).bind fun r => some (o21 l0_0 l0_1 l0_2 l0_3 l0_4 r))))) (c := (impl_BooksOk.f k l0_0 l0_1 l0_2 l0_3 l0_4 a0_5).bind fun r => some (o21 l0_0 l0_1 l0_2 l0_3 l0_4 r)) (by kernel_rfl) ?_ _ (by rw [h]; rfl)
  · unfold impl_BooksOk.f
    repeat' first
    | with_reducible exact none_L
    | with_reducible refine letB_L (fun _ _ => ?_)
    | with_reducible refine bind_L (fun _ => ?_)
    | with_reducible refine ite_L (fun _ => ?_) (fun _ => ?_)
    | with_reducible refine drop_L (by first | assumption | omega | (simp only [*, List.length_set]; done)) ?_
    | with_reducible refine let_L ?_
    | with_reducible refine some_L ?_
    | with_reducible refine letT_L ?_
    | with_reducible refine ite_I (by omega) (fun _ => ?_) (fun _ => ?_)
    | rfl
    | simp only [Bool.decide_eq_true]
    | exact Lo.refl _
    | (refine Lo.eq ?_; simp only [Bool.decide_eq_true]; done)
    | refine ite_L (fun _ => ?_) (fun _ => ?_)
theorem d21 : Sound Try.prog ⟨21, false, Q21⟩ := sound_of ⟨_, Try.func21, by kernel_rfl, by kernel_rfl⟩ fun k args hp Z K z h => by
  unfold Q21 at h
  split at h
  · obtain ⟨r, hr, hK⟩ := Option.bind_eq_some_iff.1 h
    exact ⟨_, hK, g21 k _ _ _ _ _ _ r hr⟩
  · cases h
end Go.Proofs.Ytmfgajbkcnlkcaa.AI
namespace Go.Proofs.Ytmfgajbkcnlkcaa.AI
open Go Go.RowKit Go.Proofs.YtmfgajbkcnlkcaaW.PrintWords Go.Proofs.Ytmfgajbkcnlkcaa.P
set_option linter.unusedVariables false
set_option linter.all false
set_option maxRecDepth 100000
def o26 (l0_0 : List S88) (l0_1 : List S90) (l0_2 : List S93) (l0_3 : List S96) (l0_4 : List S50) (r : List Int) : Out Rw := ⟨[.c (.rw 5)], [.rows 0 (.e88 l0_0), .rows 0 (.e90 l0_1), .rows 0 (.e93 l0_2), .rows 0 (.e96 l0_3), .rows 0 (.e50 l0_4), .rows 2 (.eI r)]⟩
def Q26 : Mean Rw := fun k a h Z K => match a, h with
  | [.w (.ag [.rw 0, .rw 1, .rw 2, .rw 3, .rw 4, .sc (.i .i64 a0_5)]), .w (.c (.sc (.i .i64 a1))), .w (.c (.sc (.i .i64 a2)))], [.rows 0 (.e88 l0_0), .rows 0 (.e90 l0_1), .rows 0 (.e93 l0_2), .rows 0 (.e96 l0_3), .rows 0 (.e50 l0_4)] => (impl_TradesOpen.f k l0_0 l0_1 l0_2 l0_3 l0_4 a0_5 a1 a2).bind fun r => K (o26 l0_0 l0_1 l0_2 l0_3 l0_4 r)
  | _, _ => none
def O26 : List (Cal Rw) := [⟨21, false, Q21⟩, ⟨35, false, Q35⟩]
theorem O26_ok : ∀ c ∈ O26, Sound Try.prog c := by
  intro c hc
  simp only [O26, List.mem_cons, List.not_mem_nil, or_false] at hc
  rcases hc with rfl | rfl
  · exact d21
  · exact d35
def C26_0 : Nat → St Rw → Option (Out Rw) := fun k st => match st with
  | ⟨38, 5, 6, [(1, .w (.c (.sc (.i .i64 x1)))), (2, .w (.c (.sc (.i .i64 x2)))), (7, .w (.c (.rw 5))), (15, .w (.c (.rw 4))), (16, .w (.c (.sc (.i .i64 x16)))), (17, .w (.c (.sc (.i .i64 x17))))], [(0, .rows 0 (.e88 l0_0)), (1, .rows 0 (.e90 l0_1)), (2, .rows 0 (.e93 l0_2)), (3, .rows 0 (.e96 l0_3)), (4, .rows 0 (.e50 l0_4)), (5, .rows 2 (.eI y5))]⟩ => (impl_TradesOpen.l0 k x1 x2 y5 l0_4 x16 x17).bind fun r => some (o26 l0_0 l0_1 l0_2 l0_3 l0_4 r)
  | _ => none
def K26 : List (Cut Rw) := [⟨[false, true, false, true, true, true], [1, 2, 7, 15, 16, 17], C26_0⟩]
theorem e26_0 (k : Nat) (x1 : Int) (x2 : Int) (x16 : Int) (x17 : Int) (l0_0 : List S88) (l0_1 : List S90) (l0_2 : List S93) (l0_3 : List S96) (l0_4 : List S50) (y5 : List Int) : Lo (seg Try.prog O26 K26 k (body Try.f26) (kEnd Try.prog Try.f26.results.toList) [false, true, false, true, true, true] ⟨38, 5, 6, [(1, .w (.c (.sc (.i .i64 x1)))), (2, .w (.c (.sc (.i .i64 x2)))), (7, .w (.c (.rw 5))), (15, .w (.c (.rw 4))), (16, .w (.c (.sc (.i .i64 x16)))), (17, .w (.c (.sc (.i .i64 x17))))], [(0, .rows 0 (.e88 l0_0)), (1, .rows 0 (.e90 l0_1)), (2, .rows 0 (.e93 l0_2)), (3, .rows 0 (.e96 l0_3)), (4, .rows 0 (.e50 l0_4)), (5, .rows 2 (.eI y5))]⟩) ((impl_TradesOpen.l0 (k + 1) x1 x2 y5 l0_4 x16 x17).bind fun r => some (o26 l0_0 l0_1 l0_2 l0_3 l0_4 r)) :=
  Lo.of (b := (if x17 < x16 then (if 0 ≤ x17 then (if x17 < (l0_4.length : Int) then (if (rd_T50 l0_4 x17).f7 = 1 then ((impl_in.f (rd_T50 l0_4 x17).f0 x1 x2).bind fun r11 => (if r11 = true then (if y5.length + 1 < 17592186044417 then ((impl_TradesOpen.l0 k x1 x2 (y5 ++ ([(rd_T50 l0_4 x17).f0])) l0_4 x16 (RowKit.wrap64 (x17 + 1))).bind fun r => some (o26 l0_0 l0_1 l0_2 l0_3 l0_4 r)) else none) else ((impl_TradesOpen.l0 k x1 x2 y5 l0_4 x16 (RowKit.wrap64 (x17 + 1))).bind fun r => some (o26 l0_0 l0_1 l0_2 l0_3 l0_4 r)))) else ((impl_TradesOpen.l0 k x1 x2 y5 l0_4 x16 (RowKit.wrap64 (x17 + 1))).bind fun r => some (o26 l0_0 l0_1 l0_2 l0_3 l0_4 r))) else none) else none) else (some (o26 l0_0 l0_1 l0_2 l0_3 l0_4 y5)))) (by kernel_rfl) (by
    rw [impl_TradesOpen.l0]
    repeat' first
    | with_reducible exact none_L
    | with_reducible refine letB_L (fun _ _ => ?_)
    | with_reducible refine bind_L (fun _ => ?_)
    | with_reducible refine ite_L (fun _ => ?_) (fun _ => ?_)
    | with_reducible refine drop_L (by first | assumption | omega | (simp only [*, List.length_set]; done)) ?_
    | with_reducible refine let_L ?_
    | with_reducible refine some_L ?_
    | with_reducible refine letT_L ?_
    | with_reducible refine ite_I (by omega) (fun _ => ?_) (fun _ => ?_)
    | rfl
    | simp only [Bool.decide_eq_true]
    | exact Lo.refl _
    | (refine Lo.eq ?_; simp only [Bool.decide_eq_true]; done)
    | refine ite_L (fun _ => ?_) (fun _ => ?_))
theorem h26_0 (k : Nat) (st : St Rw) (out : Out Rw) (h : C26_0 (k + 1) st = some out) : seg Try.prog O26 K26 k (body Try.f26) (kEnd Try.prog Try.f26.results.toList) [false, true, false, true, true, true] st = some out := by
  unfold C26_0 at h
  split at h
  · exact e26_0 _ _ _ _ _ _ _ _ _ _ _ out h
  · cases h
theorem z26_ok : ∀ c ∈ K26, ∀ st, c.f 0 st = none := by
  intro c hc st
  simp only [K26, List.mem_cons, List.not_mem_nil, or_false] at hc
  rcases hc with rfl
  · show C26_0 0 st = none; unfold C26_0; split <;> rfl
theorem h26_ok : ∀ c ∈ K26, ∀ k st out, c.f (k + 1) st = some out → seg Try.prog O26 K26 k (body Try.f26) (kEnd Try.prog Try.f26.results.toList) c.p st = some out := by
  intro c hc k st out h
  simp only [K26, List.mem_cons, List.not_mem_nil, or_false] at hc
  rcases hc with rfl
  · exact h26_0 k st out h
theorem g26 (k : Nat) (l0_0 : List (S88)) (l0_1 : List (S90)) (l0_2 : List (S93)) (l0_3 : List (S96)) (l0_4 : List (S50)) (a0_5 : Int) (a1 : Int) (a2 : Int) (r : List Int) (h : impl_TradesOpen.f k l0_0 l0_1 l0_2 l0_3 l0_4 a0_5 a1 a2 = some r) : Good Try.prog 26 [.w (.ag [.rw 0, .rw 1, .rw 2, .rw 3, .rw 4, .sc (.i .i64 a0_5)]), .w (.c (.sc (.i .i64 a1))), .w (.c (.sc (.i .i64 a2)))] [.rows 0 (.e88 l0_0), .rows 0 (.e90 l0_1), .rows 0 (.e93 l0_2), .rows 0 (.e96 l0_3), .rows 0 (.e50 l0_4)] (o26 l0_0 l0_1 l0_2 l0_3 l0_4 r) := by
  refine fn_ok (k := k) O26_ok mixed Try.func26 (root := body Try.f26) (by kernel_rfl) z26_ok h26_ok ?_
  refine Lo.of (b := ((impl_BooksOk.f k l0_0 l0_1 l0_2 l0_3 l0_4 a0_5).bind fun r9 => (if r9 = true then ((impl_TradesOpen.l0 k a1 a2 ([]) l0_4 ((l0_4.length : Int)) 0).bind fun r => some (o26 l0_0 l0_1 l0_2 l0_3 l0_4 r)) else (some (o26 l0_0 l0_1 l0_2 l0_3 l0_4 ([])))))) (c := (impl_TradesOpen.f k l0_0 l0_1 l0_2 l0_3 l0_4 a0_5 a1 a2).bind fun r => some (o26 l0_0 l0_1 l0_2 l0_3 l0_4 r)) (by kernel_rfl) ?_ _ (by rw [h]; rfl)
  · unfold impl_TradesOpen.f
    repeat' first
    | with_reducible exact none_L
    | with_reducible refine letB_L (fun _ _ => ?_)
    | with_reducible refine bind_L (fun _ => ?_)
    | with_reducible refine ite_L (fun _ => ?_) (fun _ => ?_)
    | with_reducible refine drop_L (by first | assumption | omega | (simp only [*, List.length_set]; done)) ?_
    | with_reducible refine let_L ?_
    | with_reducible refine some_L ?_
    | with_reducible refine letT_L ?_
    | with_reducible refine ite_I (by omega) (fun _ => ?_) (fun _ => ?_)
    | rfl
    | simp only [Bool.decide_eq_true]
    | exact Lo.refl _
    | (refine Lo.eq ?_; simp only [Bool.decide_eq_true]; done)
    | refine ite_L (fun _ => ?_) (fun _ => ?_)
theorem d26 : Sound Try.prog ⟨26, false, Q26⟩ := sound_of ⟨_, Try.func26, by kernel_rfl, by kernel_rfl⟩ fun k args hp Z K z h => by
  unfold Q26 at h
  split at h
  · obtain ⟨r, hr, hK⟩ := Option.bind_eq_some_iff.1 h
    exact ⟨_, hK, g26 k _ _ _ _ _ _ _ _ r hr⟩
  · cases h
def o27 (l0 : List Int) (l1 : List Int) (r : Bool) : Out Rw := ⟨[.c (.sc (.b r))], [.rows 0 (.eI l0), .rows 0 (.eI l1)]⟩
def Q27 : Mean Rw := fun k a h Z K => match a, h with
  | [.w (.c (.rw 0)), .w (.c (.rw 1))], [.rows 0 (.eI l0), .rows 0 (.eI l1)] => (laws_eqIntS.f k l0 l1).bind fun r => K (o27 l0 l1 r)
  | _, _ => none
def O27 : List (Cal Rw) := []
theorem O27_ok : ∀ c ∈ O27, Sound Try.prog c := by
  intro c hc
  simp only [O27, List.mem_cons, List.not_mem_nil, or_false] at hc
def C27_0 : Nat → St Rw → Option (Out Rw) := fun k st => match st with
  | ⟨26, 2, 2, [(0, .w (.c (.rw 0))), (1, .w (.c (.rw 1))), (5, .w (.c (.sc (.i .i64 x5))))], [(0, .rows 0 (.eI l0)), (1, .rows 0 (.eI l1))]⟩ => (laws_eqIntS.l0 k l0 l1 x5).bind fun r => some (o27 l0 l1 r)
  | _ => none
def K27 : List (Cut Rw) := [⟨[false, true, false, true, true], [0, 1, 5], C27_0⟩]
theorem e27_0 (k : Nat) (x5 : Int) (l0 : List Int) (l1 : List Int) : Lo (seg Try.prog O27 K27 k (body Try.f27) (kEnd Try.prog Try.f27.results.toList) [false, true, false, true, true] ⟨26, 2, 2, [(0, .w (.c (.rw 0))), (1, .w (.c (.rw 1))), (5, .w (.c (.sc (.i .i64 x5))))], [(0, .rows 0 (.eI l0)), (1, .rows 0 (.eI l1))]⟩) ((laws_eqIntS.l0 (k + 1) l0 l1 x5).bind fun r => some (o27 l0 l1 r)) :=
  Lo.of (b := (if x5 < (l0.length : Int) then (if 0 ≤ x5 then (if x5 < (l0.length : Int) then (if 0 ≤ x5 then (if x5 < (l1.length : Int) then (if l0.getD x5.toNat 0 = l1.getD x5.toNat 0 then ((laws_eqIntS.l0 k l0 l1 (RowKit.wrap64 (x5 + 1))).bind fun r => some (o27 l0 l1 r)) else (some (o27 l0 l1 false))) else none) else none) else none) else none) else (some (o27 l0 l1 true)))) (by kernel_rfl) (by
    rw [laws_eqIntS.l0]
    repeat' first
    | with_reducible exact none_L
    | with_reducible refine letB_L (fun _ _ => ?_)
    | with_reducible refine bind_L (fun _ => ?_)
    | with_reducible refine ite_L (fun _ => ?_) (fun _ => ?_)
    | with_reducible refine drop_L (by first | assumption | omega | (simp only [*, List.length_set]; done)) ?_
    | with_reducible refine let_L ?_
    | with_reducible refine some_L ?_
    | with_reducible refine letT_L ?_
    | with_reducible refine ite_I (by omega) (fun _ => ?_) (fun _ => ?_)
    | rfl
    | simp only [Bool.decide_eq_true]
    | exact Lo.refl _
    | (refine Lo.eq ?_; simp only [Bool.decide_eq_true]; done)
    | refine ite_L (fun _ => ?_) (fun _ => ?_))
theorem h27_0 (k : Nat) (st : St Rw) (out : Out Rw) (h : C27_0 (k + 1) st = some out) : seg Try.prog O27 K27 k (body Try.f27) (kEnd Try.prog Try.f27.results.toList) [false, true, false, true, true] st = some out := by
  unfold C27_0 at h
  split at h
  · exact e27_0 _ _ _ _ out h
  · cases h
theorem z27_ok : ∀ c ∈ K27, ∀ st, c.f 0 st = none := by
  intro c hc st
  simp only [K27, List.mem_cons, List.not_mem_nil, or_false] at hc
  rcases hc with rfl
  · show C27_0 0 st = none; unfold C27_0; split <;> rfl
theorem h27_ok : ∀ c ∈ K27, ∀ k st out, c.f (k + 1) st = some out → seg Try.prog O27 K27 k (body Try.f27) (kEnd Try.prog Try.f27.results.toList) c.p st = some out := by
  intro c hc k st out h
  simp only [K27, List.mem_cons, List.not_mem_nil, or_false] at hc
  rcases hc with rfl
  · exact h27_0 k st out h
theorem g27 (k : Nat) (l0 : List Int) (l1 : List Int) (r : Bool) (h : laws_eqIntS.f k l0 l1 = some r) : Good Try.prog 27 [.w (.c (.rw 0)), .w (.c (.rw 1))] [.rows 0 (.eI l0), .rows 0 (.eI l1)] (o27 l0 l1 r) := by
  refine fn_ok (k := k) O27_ok mixed Try.func27 (root := body Try.f27) (by kernel_rfl) z27_ok h27_ok ?_
  refine Lo.of (b := (if (l0.length : Int) = (l1.length : Int) then ((laws_eqIntS.l0 k l0 l1 0).bind fun r => some (o27 l0 l1 r)) else (some (o27 l0 l1 false)))) (c := (laws_eqIntS.f k l0 l1).bind fun r => some (o27 l0 l1 r)) (by kernel_rfl) ?_ _ (by rw [h]; rfl)
  · unfold laws_eqIntS.f
    repeat' first
    | with_reducible exact none_L
    | with_reducible refine letB_L (fun _ _ => ?_)
    | with_reducible refine bind_L (fun _ => ?_)
    | with_reducible refine ite_L (fun _ => ?_) (fun _ => ?_)
    | with_reducible refine drop_L (by first | assumption | omega | (simp only [*, List.length_set]; done)) ?_
    | with_reducible refine let_L ?_
    | with_reducible refine some_L ?_
    | with_reducible refine letT_L ?_
    | with_reducible refine ite_I (by omega) (fun _ => ?_) (fun _ => ?_)
    | rfl
    | simp only [Bool.decide_eq_true]
    | exact Lo.refl _
    | (refine Lo.eq ?_; simp only [Bool.decide_eq_true]; done)
    | refine ite_L (fun _ => ?_) (fun _ => ?_)
theorem d27 : Sound Try.prog ⟨27, false, Q27⟩ := sound_of ⟨_, Try.func27, by kernel_rfl, by kernel_rfl⟩ fun k args hp Z K z h => by
  unfold Q27 at h
  split at h
  · obtain ⟨r, hr, hK⟩ := Option.bind_eq_some_iff.1 h
    exact ⟨_, hK, g27 k _ _ r hr⟩
  · cases h
def o75 (r : Bool) : Out Rw := ⟨[.c (.sc (.b r))], []⟩
def Q75 : Mean Rw := fun k a h Z K => match a, h with
  | [.w (.ag [.sc (.i .i64 a0_0), .sc (.i .i64 a0_1)]), .w (.ag [.sc (.i .i64 a1_0), .sc (.i .i64 a1_1)])], [] => (laws_eqAccount.f a0_0 a0_1 a1_0 a1_1).bind fun r => K (o75 r)
  | _, _ => none
def O75 : List (Cal Rw) := []
theorem O75_ok : ∀ c ∈ O75, Sound Try.prog c := by
  intro c hc
  simp only [O75, List.mem_cons, List.not_mem_nil, or_false] at hc
def K75 : List (Cut Rw) := []
theorem z75_ok : ∀ c ∈ K75, ∀ st, c.f 0 st = none := by
  intro c hc st
  simp only [K75, List.mem_cons, List.not_mem_nil, or_false] at hc
theorem h75_ok : ∀ c ∈ K75, ∀ k st out, c.f (k + 1) st = some out → seg Try.prog O75 K75 k (body Try.f75) (kEnd Try.prog Try.f75.results.toList) c.p st = some out := by
  intro c hc k st out h
  simp only [K75, List.mem_cons, List.not_mem_nil, or_false] at hc
theorem g75 (k : Nat) (a0_0 : Int) (a0_1 : Int) (a1_0 : Int) (a1_1 : Int) (r : Bool) (h : laws_eqAccount.f a0_0 a0_1 a1_0 a1_1 = some r) : Good Try.prog 75 [.w (.ag [.sc (.i .i64 a0_0), .sc (.i .i64 a0_1)]), .w (.ag [.sc (.i .i64 a1_0), .sc (.i .i64 a1_1)])] [] (o75 r) := by
  refine fn_ok (k := k) O75_ok mixed Try.func75 (root := body Try.f75) (by kernel_rfl) z75_ok h75_ok ?_
  refine Lo.of (b := (if a0_0 = a1_0 then (if a0_1 = a1_1 then (some (o75 true)) else (some (o75 false))) else (some (o75 false)))) (c := (laws_eqAccount.f a0_0 a0_1 a1_0 a1_1).bind fun r => some (o75 r)) (by kernel_rfl) ?_ _ (by rw [h]; rfl)
  · unfold laws_eqAccount.f
    repeat' first
    | with_reducible exact none_L
    | with_reducible refine letB_L (fun _ _ => ?_)
    | with_reducible refine bind_L (fun _ => ?_)
    | with_reducible refine ite_L (fun _ => ?_) (fun _ => ?_)
    | with_reducible refine drop_L (by first | assumption | omega | (simp only [*, List.length_set]; done)) ?_
    | with_reducible refine let_L ?_
    | with_reducible refine some_L ?_
    | with_reducible refine letT_L ?_
    | with_reducible refine ite_I (by omega) (fun _ => ?_) (fun _ => ?_)
    | rfl
    | simp only [Bool.decide_eq_true]
    | exact Lo.refl _
    | (refine Lo.eq ?_; simp only [Bool.decide_eq_true]; done)
    | refine ite_L (fun _ => ?_) (fun _ => ?_)
theorem d75 : Sound Try.prog ⟨75, false, Q75⟩ := sound_of ⟨_, Try.func75, by kernel_rfl, by kernel_rfl⟩ fun k args hp Z K z h => by
  unfold Q75 at h
  split at h
  · obtain ⟨r, hr, hK⟩ := Option.bind_eq_some_iff.1 h
    exact ⟨_, hK, g75 k _ _ _ _ r hr⟩
  · cases h
def o36 (l0 : List S88) (l1 : List S88) (r : Bool) : Out Rw := ⟨[.c (.sc (.b r))], [.rows 0 (.e88 l0), .rows 0 (.e88 l1)]⟩
def Q36 : Mean Rw := fun k a h Z K => match a, h with
  | [.w (.c (.rw 0)), .w (.c (.rw 1))], [.rows 0 (.e88 l0), .rows 0 (.e88 l1)] => (laws_eqAccountS.f k l0 l1).bind fun r => K (o36 l0 l1 r)
  | _, _ => none
def O36 : List (Cal Rw) := [⟨75, false, Q75⟩]
theorem O36_ok : ∀ c ∈ O36, Sound Try.prog c := by
  intro c hc
  simp only [O36, List.mem_cons, List.not_mem_nil, or_false] at hc
  rcases hc with rfl
  · exact d75
def C36_0 : Nat → St Rw → Option (Out Rw) := fun k st => match st with
  | ⟨27, 2, 2, [(0, .w (.c (.rw 0))), (1, .w (.c (.rw 1))), (5, .w (.c (.sc (.i .i64 x5))))], [(0, .rows 0 (.e88 l0)), (1, .rows 0 (.e88 l1))]⟩ => (laws_eqAccountS.l0 k l0 l1 x5).bind fun r => some (o36 l0 l1 r)
  | _ => none
def K36 : List (Cut Rw) := [⟨[false, true, false, true, true], [0, 1, 5], C36_0⟩]
theorem e36_0 (k : Nat) (x5 : Int) (l0 : List S88) (l1 : List S88) : Lo (seg Try.prog O36 K36 k (body Try.f36) (kEnd Try.prog Try.f36.results.toList) [false, true, false, true, true] ⟨27, 2, 2, [(0, .w (.c (.rw 0))), (1, .w (.c (.rw 1))), (5, .w (.c (.sc (.i .i64 x5))))], [(0, .rows 0 (.e88 l0)), (1, .rows 0 (.e88 l1))]⟩) ((laws_eqAccountS.l0 (k + 1) l0 l1 x5).bind fun r => some (o36 l0 l1 r)) :=
  Lo.of (b := (if x5 < (l0.length : Int) then (if 0 ≤ x5 then (if x5 < (l0.length : Int) then (if 0 ≤ x5 then (if x5 < (l1.length : Int) then ((laws_eqAccount.f (rd_T88 l0 x5).f0 (rd_T88 l0 x5).f1 (rd_T88 l1 x5).f0 (rd_T88 l1 x5).f1).bind fun r4 => (if r4 = true then ((laws_eqAccountS.l0 k l0 l1 (RowKit.wrap64 (x5 + 1))).bind fun r => some (o36 l0 l1 r)) else (some (o36 l0 l1 false)))) else none) else none) else none) else none) else (some (o36 l0 l1 true)))) (by kernel_rfl) (by
    rw [laws_eqAccountS.l0]
    repeat' first
    | with_reducible exact none_L
    | with_reducible refine letB_L (fun _ _ => ?_)
    | with_reducible refine bind_L (fun _ => ?_)
    | with_reducible refine ite_L (fun _ => ?_) (fun _ => ?_)
    | with_reducible refine drop_L (by first | assumption | omega | (simp only [*, List.length_set]; done)) ?_
    | with_reducible refine let_L ?_
    | with_reducible refine some_L ?_
    | with_reducible refine letT_L ?_
    | with_reducible refine ite_I (by omega) (fun _ => ?_) (fun _ => ?_)
    | rfl
    | simp only [Bool.decide_eq_true]
    | exact Lo.refl _
    | (refine Lo.eq ?_; simp only [Bool.decide_eq_true]; done)
    | refine ite_L (fun _ => ?_) (fun _ => ?_))
theorem h36_0 (k : Nat) (st : St Rw) (out : Out Rw) (h : C36_0 (k + 1) st = some out) : seg Try.prog O36 K36 k (body Try.f36) (kEnd Try.prog Try.f36.results.toList) [false, true, false, true, true] st = some out := by
  unfold C36_0 at h
  split at h
  · exact e36_0 _ _ _ _ out h
  · cases h
theorem z36_ok : ∀ c ∈ K36, ∀ st, c.f 0 st = none := by
  intro c hc st
  simp only [K36, List.mem_cons, List.not_mem_nil, or_false] at hc
  rcases hc with rfl
  · show C36_0 0 st = none; unfold C36_0; split <;> rfl
theorem h36_ok : ∀ c ∈ K36, ∀ k st out, c.f (k + 1) st = some out → seg Try.prog O36 K36 k (body Try.f36) (kEnd Try.prog Try.f36.results.toList) c.p st = some out := by
  intro c hc k st out h
  simp only [K36, List.mem_cons, List.not_mem_nil, or_false] at hc
  rcases hc with rfl
  · exact h36_0 k st out h
theorem g36 (k : Nat) (l0 : List (S88)) (l1 : List (S88)) (r : Bool) (h : laws_eqAccountS.f k l0 l1 = some r) : Good Try.prog 36 [.w (.c (.rw 0)), .w (.c (.rw 1))] [.rows 0 (.e88 l0), .rows 0 (.e88 l1)] (o36 l0 l1 r) := by
  refine fn_ok (k := k) O36_ok mixed Try.func36 (root := body Try.f36) (by kernel_rfl) z36_ok h36_ok ?_
  refine Lo.of (b := (if (l0.length : Int) = (l1.length : Int) then ((laws_eqAccountS.l0 k l0 l1 0).bind fun r => some (o36 l0 l1 r)) else (some (o36 l0 l1 false)))) (c := (laws_eqAccountS.f k l0 l1).bind fun r => some (o36 l0 l1 r)) (by kernel_rfl) ?_ _ (by rw [h]; rfl)
  · unfold laws_eqAccountS.f
    repeat' first
    | with_reducible exact none_L
    | with_reducible refine letB_L (fun _ _ => ?_)
    | with_reducible refine bind_L (fun _ => ?_)
    | with_reducible refine ite_L (fun _ => ?_) (fun _ => ?_)
    | with_reducible refine drop_L (by first | assumption | omega | (simp only [*, List.length_set]; done)) ?_
    | with_reducible refine let_L ?_
    | with_reducible refine some_L ?_
    | with_reducible refine letT_L ?_
    | with_reducible refine ite_I (by omega) (fun _ => ?_) (fun _ => ?_)
    | rfl
    | simp only [Bool.decide_eq_true]
    | exact Lo.refl _
    | (refine Lo.eq ?_; simp only [Bool.decide_eq_true]; done)
    | refine ite_L (fun _ => ?_) (fun _ => ?_)
theorem d36 : Sound Try.prog ⟨36, false, Q36⟩ := sound_of ⟨_, Try.func36, by kernel_rfl, by kernel_rfl⟩ fun k args hp Z K z h => by
  unfold Q36 at h
  split at h
  · obtain ⟨r, hr, hK⟩ := Option.bind_eq_some_iff.1 h
    exact ⟨_, hK, g36 k _ _ r hr⟩
  · cases h
def o76 (r : Bool) : Out Rw := ⟨[.c (.sc (.b r))], []⟩
def Q76 : Mean Rw := fun k a h Z K => match a, h with
  | [.w (.ag [.sc (.i .i64 a0_0), .sc (.i .i64 a0_1)]), .w (.ag [.sc (.i .i64 a1_0), .sc (.i .i64 a1_1)])], [] => (laws_eqInstr.f a0_0 a0_1 a1_0 a1_1).bind fun r => K (o76 r)
  | _, _ => none
def O76 : List (Cal Rw) := []
theorem O76_ok : ∀ c ∈ O76, Sound Try.prog c := by
  intro c hc
  simp only [O76, List.mem_cons, List.not_mem_nil, or_false] at hc
def K76 : List (Cut Rw) := []
theorem z76_ok : ∀ c ∈ K76, ∀ st, c.f 0 st = none := by
  intro c hc st
  simp only [K76, List.mem_cons, List.not_mem_nil, or_false] at hc
theorem h76_ok : ∀ c ∈ K76, ∀ k st out, c.f (k + 1) st = some out → seg Try.prog O76 K76 k (body Try.f76) (kEnd Try.prog Try.f76.results.toList) c.p st = some out := by
  intro c hc k st out h
  simp only [K76, List.mem_cons, List.not_mem_nil, or_false] at hc
theorem g76 (k : Nat) (a0_0 : Int) (a0_1 : Int) (a1_0 : Int) (a1_1 : Int) (r : Bool) (h : laws_eqInstr.f a0_0 a0_1 a1_0 a1_1 = some r) : Good Try.prog 76 [.w (.ag [.sc (.i .i64 a0_0), .sc (.i .i64 a0_1)]), .w (.ag [.sc (.i .i64 a1_0), .sc (.i .i64 a1_1)])] [] (o76 r) := by
  refine fn_ok (k := k) O76_ok mixed Try.func76 (root := body Try.f76) (by kernel_rfl) z76_ok h76_ok ?_
  refine Lo.of (b := (if a0_0 = a1_0 then (if a0_1 = a1_1 then (some (o76 true)) else (some (o76 false))) else (some (o76 false)))) (c := (laws_eqInstr.f a0_0 a0_1 a1_0 a1_1).bind fun r => some (o76 r)) (by kernel_rfl) ?_ _ (by rw [h]; rfl)
  · unfold laws_eqInstr.f
    repeat' first
    | with_reducible exact none_L
    | with_reducible refine letB_L (fun _ _ => ?_)
    | with_reducible refine bind_L (fun _ => ?_)
    | with_reducible refine ite_L (fun _ => ?_) (fun _ => ?_)
    | with_reducible refine drop_L (by first | assumption | omega | (simp only [*, List.length_set]; done)) ?_
    | with_reducible refine let_L ?_
    | with_reducible refine some_L ?_
    | with_reducible refine letT_L ?_
    | with_reducible refine ite_I (by omega) (fun _ => ?_) (fun _ => ?_)
    | rfl
    | simp only [Bool.decide_eq_true]
    | exact Lo.refl _
    | (refine Lo.eq ?_; simp only [Bool.decide_eq_true]; done)
    | refine ite_L (fun _ => ?_) (fun _ => ?_)
theorem d76 : Sound Try.prog ⟨76, false, Q76⟩ := sound_of ⟨_, Try.func76, by kernel_rfl, by kernel_rfl⟩ fun k args hp Z K z h => by
  unfold Q76 at h
  split at h
  · obtain ⟨r, hr, hK⟩ := Option.bind_eq_some_iff.1 h
    exact ⟨_, hK, g76 k _ _ _ _ r hr⟩
  · cases h
def o37 (l0 : List S90) (l1 : List S90) (r : Bool) : Out Rw := ⟨[.c (.sc (.b r))], [.rows 0 (.e90 l0), .rows 0 (.e90 l1)]⟩
def Q37 : Mean Rw := fun k a h Z K => match a, h with
  | [.w (.c (.rw 0)), .w (.c (.rw 1))], [.rows 0 (.e90 l0), .rows 0 (.e90 l1)] => (laws_eqInstrS.f k l0 l1).bind fun r => K (o37 l0 l1 r)
  | _, _ => none
def O37 : List (Cal Rw) := [⟨76, false, Q76⟩]
theorem O37_ok : ∀ c ∈ O37, Sound Try.prog c := by
  intro c hc
  simp only [O37, List.mem_cons, List.not_mem_nil, or_false] at hc
  rcases hc with rfl
  · exact d76
def C37_0 : Nat → St Rw → Option (Out Rw) := fun k st => match st with
  | ⟨27, 2, 2, [(0, .w (.c (.rw 0))), (1, .w (.c (.rw 1))), (5, .w (.c (.sc (.i .i64 x5))))], [(0, .rows 0 (.e90 l0)), (1, .rows 0 (.e90 l1))]⟩ => (laws_eqInstrS.l0 k l0 l1 x5).bind fun r => some (o37 l0 l1 r)
  | _ => none
def K37 : List (Cut Rw) := [⟨[false, true, false, true, true], [0, 1, 5], C37_0⟩]
theorem e37_0 (k : Nat) (x5 : Int) (l0 : List S90) (l1 : List S90) : Lo (seg Try.prog O37 K37 k (body Try.f37) (kEnd Try.prog Try.f37.results.toList) [false, true, false, true, true] ⟨27, 2, 2, [(0, .w (.c (.rw 0))), (1, .w (.c (.rw 1))), (5, .w (.c (.sc (.i .i64 x5))))], [(0, .rows 0 (.e90 l0)), (1, .rows 0 (.e90 l1))]⟩) ((laws_eqInstrS.l0 (k + 1) l0 l1 x5).bind fun r => some (o37 l0 l1 r)) :=
  Lo.of (b := (if x5 < (l0.length : Int) then (if 0 ≤ x5 then (if x5 < (l0.length : Int) then (if 0 ≤ x5 then (if x5 < (l1.length : Int) then ((laws_eqInstr.f (rd_T90 l0 x5).f0 (rd_T90 l0 x5).f1 (rd_T90 l1 x5).f0 (rd_T90 l1 x5).f1).bind fun r4 => (if r4 = true then ((laws_eqInstrS.l0 k l0 l1 (RowKit.wrap64 (x5 + 1))).bind fun r => some (o37 l0 l1 r)) else (some (o37 l0 l1 false)))) else none) else none) else none) else none) else (some (o37 l0 l1 true)))) (by kernel_rfl) (by
    rw [laws_eqInstrS.l0]
    repeat' first
    | with_reducible exact none_L
    | with_reducible refine letB_L (fun _ _ => ?_)
    | with_reducible refine bind_L (fun _ => ?_)
    | with_reducible refine ite_L (fun _ => ?_) (fun _ => ?_)
    | with_reducible refine drop_L (by first | assumption | omega | (simp only [*, List.length_set]; done)) ?_
    | with_reducible refine let_L ?_
    | with_reducible refine some_L ?_
    | with_reducible refine letT_L ?_
    | with_reducible refine ite_I (by omega) (fun _ => ?_) (fun _ => ?_)
    | rfl
    | simp only [Bool.decide_eq_true]
    | exact Lo.refl _
    | (refine Lo.eq ?_; simp only [Bool.decide_eq_true]; done)
    | refine ite_L (fun _ => ?_) (fun _ => ?_))
theorem h37_0 (k : Nat) (st : St Rw) (out : Out Rw) (h : C37_0 (k + 1) st = some out) : seg Try.prog O37 K37 k (body Try.f37) (kEnd Try.prog Try.f37.results.toList) [false, true, false, true, true] st = some out := by
  unfold C37_0 at h
  split at h
  · exact e37_0 _ _ _ _ out h
  · cases h
theorem z37_ok : ∀ c ∈ K37, ∀ st, c.f 0 st = none := by
  intro c hc st
  simp only [K37, List.mem_cons, List.not_mem_nil, or_false] at hc
  rcases hc with rfl
  · show C37_0 0 st = none; unfold C37_0; split <;> rfl
theorem h37_ok : ∀ c ∈ K37, ∀ k st out, c.f (k + 1) st = some out → seg Try.prog O37 K37 k (body Try.f37) (kEnd Try.prog Try.f37.results.toList) c.p st = some out := by
  intro c hc k st out h
  simp only [K37, List.mem_cons, List.not_mem_nil, or_false] at hc
  rcases hc with rfl
  · exact h37_0 k st out h
theorem g37 (k : Nat) (l0 : List (S90)) (l1 : List (S90)) (r : Bool) (h : laws_eqInstrS.f k l0 l1 = some r) : Good Try.prog 37 [.w (.c (.rw 0)), .w (.c (.rw 1))] [.rows 0 (.e90 l0), .rows 0 (.e90 l1)] (o37 l0 l1 r) := by
  refine fn_ok (k := k) O37_ok mixed Try.func37 (root := body Try.f37) (by kernel_rfl) z37_ok h37_ok ?_
  refine Lo.of (b := (if (l0.length : Int) = (l1.length : Int) then ((laws_eqInstrS.l0 k l0 l1 0).bind fun r => some (o37 l0 l1 r)) else (some (o37 l0 l1 false)))) (c := (laws_eqInstrS.f k l0 l1).bind fun r => some (o37 l0 l1 r)) (by kernel_rfl) ?_ _ (by rw [h]; rfl)
  · unfold laws_eqInstrS.f
    repeat' first
    | with_reducible exact none_L
    | with_reducible refine letB_L (fun _ _ => ?_)
    | with_reducible refine bind_L (fun _ => ?_)
    | with_reducible refine ite_L (fun _ => ?_) (fun _ => ?_)
    | with_reducible refine drop_L (by first | assumption | omega | (simp only [*, List.length_set]; done)) ?_
    | with_reducible refine let_L ?_
    | with_reducible refine some_L ?_
    | with_reducible refine letT_L ?_
    | with_reducible refine ite_I (by omega) (fun _ => ?_) (fun _ => ?_)
    | rfl
    | simp only [Bool.decide_eq_true]
    | exact Lo.refl _
    | (refine Lo.eq ?_; simp only [Bool.decide_eq_true]; done)
    | refine ite_L (fun _ => ?_) (fun _ => ?_)
theorem d37 : Sound Try.prog ⟨37, false, Q37⟩ := sound_of ⟨_, Try.func37, by kernel_rfl, by kernel_rfl⟩ fun k args hp Z K z h => by
  unfold Q37 at h
  split at h
  · obtain ⟨r, hr, hK⟩ := Option.bind_eq_some_iff.1 h
    exact ⟨_, hK, g37 k _ _ r hr⟩
  · cases h
def o77 (r : Bool) : Out Rw := ⟨[.c (.sc (.b r))], []⟩
def Q77 : Mean Rw := fun k a h Z K => match a, h with
  | [.w (.ag [.sc (.i .i64 a0_0), .sc (.i .i64 a0_1), .sc (.i .i64 a0_2)]), .w (.ag [.sc (.i .i64 a1_0), .sc (.i .i64 a1_1), .sc (.i .i64 a1_2)])], [] => (laws_eqBal.f a0_0 a0_1 a0_2 a1_0 a1_1 a1_2).bind fun r => K (o77 r)
  | _, _ => none
def O77 : List (Cal Rw) := []
theorem O77_ok : ∀ c ∈ O77, Sound Try.prog c := by
  intro c hc
  simp only [O77, List.mem_cons, List.not_mem_nil, or_false] at hc
def K77 : List (Cut Rw) := []
theorem z77_ok : ∀ c ∈ K77, ∀ st, c.f 0 st = none := by
  intro c hc st
  simp only [K77, List.mem_cons, List.not_mem_nil, or_false] at hc
theorem h77_ok : ∀ c ∈ K77, ∀ k st out, c.f (k + 1) st = some out → seg Try.prog O77 K77 k (body Try.f77) (kEnd Try.prog Try.f77.results.toList) c.p st = some out := by
  intro c hc k st out h
  simp only [K77, List.mem_cons, List.not_mem_nil, or_false] at hc
theorem g77 (k : Nat) (a0_0 : Int) (a0_1 : Int) (a0_2 : Int) (a1_0 : Int) (a1_1 : Int) (a1_2 : Int) (r : Bool) (h : laws_eqBal.f a0_0 a0_1 a0_2 a1_0 a1_1 a1_2 = some r) : Good Try.prog 77 [.w (.ag [.sc (.i .i64 a0_0), .sc (.i .i64 a0_1), .sc (.i .i64 a0_2)]), .w (.ag [.sc (.i .i64 a1_0), .sc (.i .i64 a1_1), .sc (.i .i64 a1_2)])] [] (o77 r) := by
  refine fn_ok (k := k) O77_ok mixed Try.func77 (root := body Try.f77) (by kernel_rfl) z77_ok h77_ok ?_
  refine Lo.of (b := (if a0_0 = a1_0 then (if a0_1 = a1_1 then (if a0_2 = a1_2 then (some (o77 true)) else (some (o77 false))) else (some (o77 false))) else (some (o77 false)))) (c := (laws_eqBal.f a0_0 a0_1 a0_2 a1_0 a1_1 a1_2).bind fun r => some (o77 r)) (by kernel_rfl) ?_ _ (by rw [h]; rfl)
  · unfold laws_eqBal.f
    repeat' first
    | with_reducible exact none_L
    | with_reducible refine letB_L (fun _ _ => ?_)
    | with_reducible refine bind_L (fun _ => ?_)
    | with_reducible refine ite_L (fun _ => ?_) (fun _ => ?_)
    | with_reducible refine drop_L (by first | assumption | omega | (simp only [*, List.length_set]; done)) ?_
    | with_reducible refine let_L ?_
    | with_reducible refine some_L ?_
    | with_reducible refine letT_L ?_
    | with_reducible refine ite_I (by omega) (fun _ => ?_) (fun _ => ?_)
    | rfl
    | simp only [Bool.decide_eq_true]
    | exact Lo.refl _
    | (refine Lo.eq ?_; simp only [Bool.decide_eq_true]; done)
    | refine ite_L (fun _ => ?_) (fun _ => ?_)
theorem d77 : Sound Try.prog ⟨77, false, Q77⟩ := sound_of ⟨_, Try.func77, by kernel_rfl, by kernel_rfl⟩ fun k args hp Z K z h => by
  unfold Q77 at h
  split at h
  · obtain ⟨r, hr, hK⟩ := Option.bind_eq_some_iff.1 h
    exact ⟨_, hK, g77 k _ _ _ _ _ _ r hr⟩
  · cases h
def o38 (l0 : List S93) (l1 : List S93) (r : Bool) : Out Rw := ⟨[.c (.sc (.b r))], [.rows 0 (.e93 l0), .rows 0 (.e93 l1)]⟩
def Q38 : Mean Rw := fun k a h Z K => match a, h with
  | [.w (.c (.rw 0)), .w (.c (.rw 1))], [.rows 0 (.e93 l0), .rows 0 (.e93 l1)] => (laws_eqBalS.f k l0 l1).bind fun r => K (o38 l0 l1 r)
  | _, _ => none
def O38 : List (Cal Rw) := [⟨77, false, Q77⟩]
theorem O38_ok : ∀ c ∈ O38, Sound Try.prog c := by
  intro c hc
  simp only [O38, List.mem_cons, List.not_mem_nil, or_false] at hc
  rcases hc with rfl
  · exact d77
def C38_0 : Nat → St Rw → Option (Out Rw) := fun k st => match st with
  | ⟨27, 2, 2, [(0, .w (.c (.rw 0))), (1, .w (.c (.rw 1))), (5, .w (.c (.sc (.i .i64 x5))))], [(0, .rows 0 (.e93 l0)), (1, .rows 0 (.e93 l1))]⟩ => (laws_eqBalS.l0 k l0 l1 x5).bind fun r => some (o38 l0 l1 r)
  | _ => none
def K38 : List (Cut Rw) := [⟨[false, true, false, true, true], [0, 1, 5], C38_0⟩]
theorem e38_0 (k : Nat) (x5 : Int) (l0 : List S93) (l1 : List S93) : Lo (seg Try.prog O38 K38 k (body Try.f38) (kEnd Try.prog Try.f38.results.toList) [false, true, false, true, true] ⟨27, 2, 2, [(0, .w (.c (.rw 0))), (1, .w (.c (.rw 1))), (5, .w (.c (.sc (.i .i64 x5))))], [(0, .rows 0 (.e93 l0)), (1, .rows 0 (.e93 l1))]⟩) ((laws_eqBalS.l0 (k + 1) l0 l1 x5).bind fun r => some (o38 l0 l1 r)) :=
  Lo.of (b := (if x5 < (l0.length : Int) then (if 0 ≤ x5 then (if x5 < (l0.length : Int) then (if 0 ≤ x5 then (if x5 < (l1.length : Int) then ((laws_eqBal.f (rd_T93 l0 x5).f0 (rd_T93 l0 x5).f1 (rd_T93 l0 x5).f2 (rd_T93 l1 x5).f0 (rd_T93 l1 x5).f1 (rd_T93 l1 x5).f2).bind fun r4 => (if r4 = true then ((laws_eqBalS.l0 k l0 l1 (RowKit.wrap64 (x5 + 1))).bind fun r => some (o38 l0 l1 r)) else (some (o38 l0 l1 false)))) else none) else none) else none) else none) else (some (o38 l0 l1 true)))) (by kernel_rfl) (by
    rw [laws_eqBalS.l0]
    repeat' first
    | with_reducible exact none_L
    | with_reducible refine letB_L (fun _ _ => ?_)
    | with_reducible refine bind_L (fun _ => ?_)
    | with_reducible refine ite_L (fun _ => ?_) (fun _ => ?_)
    | with_reducible refine drop_L (by first | assumption | omega | (simp only [*, List.length_set]; done)) ?_
    | with_reducible refine let_L ?_
    | with_reducible refine some_L ?_
    | with_reducible refine letT_L ?_
    | with_reducible refine ite_I (by omega) (fun _ => ?_) (fun _ => ?_)
    | rfl
    | simp only [Bool.decide_eq_true]
    | exact Lo.refl _
    | (refine Lo.eq ?_; simp only [Bool.decide_eq_true]; done)
    | refine ite_L (fun _ => ?_) (fun _ => ?_))
theorem h38_0 (k : Nat) (st : St Rw) (out : Out Rw) (h : C38_0 (k + 1) st = some out) : seg Try.prog O38 K38 k (body Try.f38) (kEnd Try.prog Try.f38.results.toList) [false, true, false, true, true] st = some out := by
  unfold C38_0 at h
  split at h
  · exact e38_0 _ _ _ _ out h
  · cases h
theorem z38_ok : ∀ c ∈ K38, ∀ st, c.f 0 st = none := by
  intro c hc st
  simp only [K38, List.mem_cons, List.not_mem_nil, or_false] at hc
  rcases hc with rfl
  · show C38_0 0 st = none; unfold C38_0; split <;> rfl
theorem h38_ok : ∀ c ∈ K38, ∀ k st out, c.f (k + 1) st = some out → seg Try.prog O38 K38 k (body Try.f38) (kEnd Try.prog Try.f38.results.toList) c.p st = some out := by
  intro c hc k st out h
  simp only [K38, List.mem_cons, List.not_mem_nil, or_false] at hc
  rcases hc with rfl
  · exact h38_0 k st out h
theorem g38 (k : Nat) (l0 : List (S93)) (l1 : List (S93)) (r : Bool) (h : laws_eqBalS.f k l0 l1 = some r) : Good Try.prog 38 [.w (.c (.rw 0)), .w (.c (.rw 1))] [.rows 0 (.e93 l0), .rows 0 (.e93 l1)] (o38 l0 l1 r) := by
  refine fn_ok (k := k) O38_ok mixed Try.func38 (root := body Try.f38) (by kernel_rfl) z38_ok h38_ok ?_
  refine Lo.of (b := (if (l0.length : Int) = (l1.length : Int) then ((laws_eqBalS.l0 k l0 l1 0).bind fun r => some (o38 l0 l1 r)) else (some (o38 l0 l1 false)))) (c := (laws_eqBalS.f k l0 l1).bind fun r => some (o38 l0 l1 r)) (by kernel_rfl) ?_ _ (by rw [h]; rfl)
  · unfold laws_eqBalS.f
    repeat' first
    | with_reducible exact none_L
    | with_reducible refine letB_L (fun _ _ => ?_)
    | with_reducible refine bind_L (fun _ => ?_)
    | with_reducible refine ite_L (fun _ => ?_) (fun _ => ?_)
    | with_reducible refine drop_L (by first | assumption | omega | (simp only [*, List.length_set]; done)) ?_
    | with_reducible refine let_L ?_
    | with_reducible refine some_L ?_
    | with_reducible refine letT_L ?_
    | with_reducible refine ite_I (by omega) (fun _ => ?_) (fun _ => ?_)
    | rfl
    | simp only [Bool.decide_eq_true]
    | exact Lo.refl _
    | (refine Lo.eq ?_; simp only [Bool.decide_eq_true]; done)
    | refine ite_L (fun _ => ?_) (fun _ => ?_)
theorem d38 : Sound Try.prog ⟨38, false, Q38⟩ := sound_of ⟨_, Try.func38, by kernel_rfl, by kernel_rfl⟩ fun k args hp Z K z h => by
  unfold Q38 at h
  split at h
  · obtain ⟨r, hr, hK⟩ := Option.bind_eq_some_iff.1 h
    exact ⟨_, hK, g38 k _ _ r hr⟩
  · cases h
def o78 (r : Bool) : Out Rw := ⟨[.c (.sc (.b r))], []⟩
def Q78 : Mean Rw := fun k a h Z K => match a, h with
  | [.w (.ag [.sc (.i .i64 a0_0), .sc (.i .i64 a0_1), .sc (.i .i64 a0_2), .sc (.i .i64 a0_3), .sc (.i .i64 a0_4)]), .w (.ag [.sc (.i .i64 a1_0), .sc (.i .i64 a1_1), .sc (.i .i64 a1_2), .sc (.i .i64 a1_3), .sc (.i .i64 a1_4)])], [] => (laws_eqLot.f a0_0 a0_1 a0_2 a0_3 a0_4 a1_0 a1_1 a1_2 a1_3 a1_4).bind fun r => K (o78 r)
  | _, _ => none
def O78 : List (Cal Rw) := []
theorem O78_ok : ∀ c ∈ O78, Sound Try.prog c := by
  intro c hc
  simp only [O78, List.mem_cons, List.not_mem_nil, or_false] at hc
def K78 : List (Cut Rw) := []
theorem z78_ok : ∀ c ∈ K78, ∀ st, c.f 0 st = none := by
  intro c hc st
  simp only [K78, List.mem_cons, List.not_mem_nil, or_false] at hc
theorem h78_ok : ∀ c ∈ K78, ∀ k st out, c.f (k + 1) st = some out → seg Try.prog O78 K78 k (body Try.f78) (kEnd Try.prog Try.f78.results.toList) c.p st = some out := by
  intro c hc k st out h
  simp only [K78, List.mem_cons, List.not_mem_nil, or_false] at hc
theorem g78 (k : Nat) (a0_0 : Int) (a0_1 : Int) (a0_2 : Int) (a0_3 : Int) (a0_4 : Int) (a1_0 : Int) (a1_1 : Int) (a1_2 : Int) (a1_3 : Int) (a1_4 : Int) (r : Bool) (h : laws_eqLot.f a0_0 a0_1 a0_2 a0_3 a0_4 a1_0 a1_1 a1_2 a1_3 a1_4 = some r) : Good Try.prog 78 [.w (.ag [.sc (.i .i64 a0_0), .sc (.i .i64 a0_1), .sc (.i .i64 a0_2), .sc (.i .i64 a0_3), .sc (.i .i64 a0_4)]), .w (.ag [.sc (.i .i64 a1_0), .sc (.i .i64 a1_1), .sc (.i .i64 a1_2), .sc (.i .i64 a1_3), .sc (.i .i64 a1_4)])] [] (o78 r) := by
  refine fn_ok (k := k) O78_ok mixed Try.func78 (root := body Try.f78) (by kernel_rfl) z78_ok h78_ok ?_
  refine Lo.of (b := (if a0_0 = a1_0 then (if a0_1 = a1_1 then (if a0_2 = a1_2 then (if a0_3 = a1_3 then (if a0_4 = a1_4 then (some (o78 true)) else (some (o78 false))) else (some (o78 false))) else (some (o78 false))) else (some (o78 false))) else (some (o78 false)))) (c := (laws_eqLot.f a0_0 a0_1 a0_2 a0_3 a0_4 a1_0 a1_1 a1_2 a1_3 a1_4).bind fun r => some (o78 r)) (by kernel_rfl) ?_ _ (by rw [h]; rfl)
  · unfold laws_eqLot.f
    repeat' first
    | with_reducible exact none_L
    | with_reducible refine letB_L (fun _ _ => ?_)
    | with_reducible refine bind_L (fun _ => ?_)
    | with_reducible refine ite_L (fun _ => ?_) (fun _ => ?_)
    | with_reducible refine drop_L (by first | assumption | omega | (simp only [*, List.length_set]; done)) ?_
    | with_reducible refine let_L ?_
    | with_reducible refine some_L ?_
    | with_reducible refine letT_L ?_
    | with_reducible refine ite_I (by omega) (fun _ => ?_) (fun _ => ?_)
    | rfl
    | simp only [Bool.decide_eq_true]
    | exact Lo.refl _
    | (refine Lo.eq ?_; simp only [Bool.decide_eq_true]; done)
    | refine ite_L (fun _ => ?_) (fun _ => ?_)
theorem d78 : Sound Try.prog ⟨78, false, Q78⟩ := sound_of ⟨_, Try.func78, by kernel_rfl, by kernel_rfl⟩ fun k args hp Z K z h => by
  unfold Q78 at h
  split at h
  · obtain ⟨r, hr, hK⟩ := Option.bind_eq_some_iff.1 h
    exact ⟨_, hK, g78 k _ _ _ _ _ _ _ _ _ _ r hr⟩
  · cases h
end Go.Proofs.Ytmfgajbkcnlkcaa.AI
namespace Go.Proofs.Ytmfgajbkcnlkcaa.AI
open Go Go.RowKit Go.Proofs.YtmfgajbkcnlkcaaW.PrintWords Go.Proofs.Ytmfgajbkcnlkcaa.P
set_option linter.unusedVariables false
set_option linter.all false
set_option maxRecDepth 100000
def o39 (l0 : List S96) (l1 : List S96) (r : Bool) : Out Rw := ⟨[.c (.sc (.b r))], [.rows 0 (.e96 l0), .rows 0 (.e96 l1)]⟩
def Q39 : Mean Rw := fun k a h Z K => match a, h with
  | [.w (.c (.rw 0)), .w (.c (.rw 1))], [.rows 0 (.e96 l0), .rows 0 (.e96 l1)] => (laws_eqLotS.f k l0 l1).bind fun r => K (o39 l0 l1 r)
  | _, _ => none
def O39 : List (Cal Rw) := [⟨78, false, Q78⟩]
theorem O39_ok : ∀ c ∈ O39, Sound Try.prog c := by
  intro c hc
  simp only [O39, List.mem_cons, List.not_mem_nil, or_false] at hc
  rcases hc with rfl
  · exact d78
def C39_0 : Nat → St Rw → Option (Out Rw) := fun k st => match st with
  | ⟨27, 2, 2, [(0, .w (.c (.rw 0))), (1, .w (.c (.rw 1))), (5, .w (.c (.sc (.i .i64 x5))))], [(0, .rows 0 (.e96 l0)), (1, .rows 0 (.e96 l1))]⟩ => (laws_eqLotS.l0 k l0 l1 x5).bind fun r => some (o39 l0 l1 r)
  | _ => none
def K39 : List (Cut Rw) := [⟨[false, true, false, true, true], [0, 1, 5], C39_0⟩]
theorem e39_0 (k : Nat) (x5 : Int) (l0 : List S96) (l1 : List S96) : Lo (seg Try.prog O39 K39 k (body Try.f39) (kEnd Try.prog Try.f39.results.toList) [false, true, false, true, true] ⟨27, 2, 2, [(0, .w (.c (.rw 0))), (1, .w (.c (.rw 1))), (5, .w (.c (.sc (.i .i64 x5))))], [(0, .rows 0 (.e96 l0)), (1, .rows 0 (.e96 l1))]⟩) ((laws_eqLotS.l0 (k + 1) l0 l1 x5).bind fun r => some (o39 l0 l1 r)) :=
  Lo.of (b := (if x5 < (l0.length : Int) then (if 0 ≤ x5 then (if x5 < (l0.length : Int) then (if 0 ≤ x5 then (if x5 < (l1.length : Int) then ((laws_eqLot.f (rd_T96 l0 x5).f0 (rd_T96 l0 x5).f1 (rd_T96 l0 x5).f2 (rd_T96 l0 x5).f3 (rd_T96 l0 x5).f4 (rd_T96 l1 x5).f0 (rd_T96 l1 x5).f1 (rd_T96 l1 x5).f2 (rd_T96 l1 x5).f3 (rd_T96 l1 x5).f4).bind fun r4 => (if r4 = true then ((laws_eqLotS.l0 k l0 l1 (RowKit.wrap64 (x5 + 1))).bind fun r => some (o39 l0 l1 r)) else (some (o39 l0 l1 false)))) else none) else none) else none) else none) else (some (o39 l0 l1 true)))) (by kernel_rfl) (by
    rw [laws_eqLotS.l0]
    repeat' first
    | with_reducible exact none_L
    | with_reducible refine letB_L (fun _ _ => ?_)
    | with_reducible refine bind_L (fun _ => ?_)
    | with_reducible refine ite_L (fun _ => ?_) (fun _ => ?_)
    | with_reducible refine drop_L (by first | assumption | omega | (simp only [*, List.length_set]; done)) ?_
    | with_reducible refine let_L ?_
    | with_reducible refine some_L ?_
    | with_reducible refine letT_L ?_
    | with_reducible refine ite_I (by omega) (fun _ => ?_) (fun _ => ?_)
    | rfl
    | simp only [Bool.decide_eq_true]
    | exact Lo.refl _
    | (refine Lo.eq ?_; simp only [Bool.decide_eq_true]; done)
    | refine ite_L (fun _ => ?_) (fun _ => ?_))
theorem h39_0 (k : Nat) (st : St Rw) (out : Out Rw) (h : C39_0 (k + 1) st = some out) : seg Try.prog O39 K39 k (body Try.f39) (kEnd Try.prog Try.f39.results.toList) [false, true, false, true, true] st = some out := by
  unfold C39_0 at h
  split at h
  · exact e39_0 _ _ _ _ out h
  · cases h
theorem z39_ok : ∀ c ∈ K39, ∀ st, c.f 0 st = none := by
  intro c hc st
  simp only [K39, List.mem_cons, List.not_mem_nil, or_false] at hc
  rcases hc with rfl
  · show C39_0 0 st = none; unfold C39_0; split <;> rfl
theorem h39_ok : ∀ c ∈ K39, ∀ k st out, c.f (k + 1) st = some out → seg Try.prog O39 K39 k (body Try.f39) (kEnd Try.prog Try.f39.results.toList) c.p st = some out := by
  intro c hc k st out h
  simp only [K39, List.mem_cons, List.not_mem_nil, or_false] at hc
  rcases hc with rfl
  · exact h39_0 k st out h
theorem g39 (k : Nat) (l0 : List (S96)) (l1 : List (S96)) (r : Bool) (h : laws_eqLotS.f k l0 l1 = some r) : Good Try.prog 39 [.w (.c (.rw 0)), .w (.c (.rw 1))] [.rows 0 (.e96 l0), .rows 0 (.e96 l1)] (o39 l0 l1 r) := by
  refine fn_ok (k := k) O39_ok mixed Try.func39 (root := body Try.f39) (by kernel_rfl) z39_ok h39_ok ?_
  refine Lo.of (b := (if (l0.length : Int) = (l1.length : Int) then ((laws_eqLotS.l0 k l0 l1 0).bind fun r => some (o39 l0 l1 r)) else (some (o39 l0 l1 false)))) (c := (laws_eqLotS.f k l0 l1).bind fun r => some (o39 l0 l1 r)) (by kernel_rfl) ?_ _ (by rw [h]; rfl)
  · unfold laws_eqLotS.f
    repeat' first
    | with_reducible exact none_L
    | with_reducible refine letB_L (fun _ _ => ?_)
    | with_reducible refine bind_L (fun _ => ?_)
    | with_reducible refine ite_L (fun _ => ?_) (fun _ => ?_)
    | with_reducible refine drop_L (by first | assumption | omega | (simp only [*, List.length_set]; done)) ?_
    | with_reducible refine let_L ?_
    | with_reducible refine some_L ?_
    | with_reducible refine letT_L ?_
    | with_reducible refine ite_I (by omega) (fun _ => ?_) (fun _ => ?_)
    | rfl
    | simp only [Bool.decide_eq_true]
    | exact Lo.refl _
    | (refine Lo.eq ?_; simp only [Bool.decide_eq_true]; done)
    | refine ite_L (fun _ => ?_) (fun _ => ?_)
theorem d39 : Sound Try.prog ⟨39, false, Q39⟩ := sound_of ⟨_, Try.func39, by kernel_rfl, by kernel_rfl⟩ fun k args hp Z K z h => by
  unfold Q39 at h
  split at h
  · obtain ⟨r, hr, hK⟩ := Option.bind_eq_some_iff.1 h
    exact ⟨_, hK, g39 k _ _ r hr⟩
  · cases h
def o24 (r : Bool) : Out Rw := ⟨[.c (.sc (.b r))], []⟩
def Q24 : Mean Rw := fun k a h Z K => match a, h with
  | [.w (.ag [.sc (.i .i64 a0_0), .sc (.i .i64 a0_1), .sc (.i .i64 a0_2), .sc (.i .i64 a0_3), .sc (.i .i64 a0_4), .sc (.i .i64 a0_5), .sc (.i .i64 a0_6), .sc (.i .i64 a0_7)]), .w (.ag [.sc (.i .i64 a1_0), .sc (.i .i64 a1_1), .sc (.i .i64 a1_2), .sc (.i .i64 a1_3), .sc (.i .i64 a1_4), .sc (.i .i64 a1_5), .sc (.i .i64 a1_6), .sc (.i .i64 a1_7)])], [] => (laws_eqTrade.f a0_0 a0_1 a0_2 a0_3 a0_4 a0_5 a0_6 a0_7 a1_0 a1_1 a1_2 a1_3 a1_4 a1_5 a1_6 a1_7).bind fun r => K (o24 r)
  | _, _ => none
def O24 : List (Cal Rw) := []
theorem O24_ok : ∀ c ∈ O24, Sound Try.prog c := by
  intro c hc
  simp only [O24, List.mem_cons, List.not_mem_nil, or_false] at hc
def K24 : List (Cut Rw) := []
theorem z24_ok : ∀ c ∈ K24, ∀ st, c.f 0 st = none := by
  intro c hc st
  simp only [K24, List.mem_cons, List.not_mem_nil, or_false] at hc
theorem h24_ok : ∀ c ∈ K24, ∀ k st out, c.f (k + 1) st = some out → seg Try.prog O24 K24 k (body Try.f24) (kEnd Try.prog Try.f24.results.toList) c.p st = some out := by
  intro c hc k st out h
  simp only [K24, List.mem_cons, List.not_mem_nil, or_false] at hc
theorem g24 (k : Nat) (a0_0 : Int) (a0_1 : Int) (a0_2 : Int) (a0_3 : Int) (a0_4 : Int) (a0_5 : Int) (a0_6 : Int) (a0_7 : Int) (a1_0 : Int) (a1_1 : Int) (a1_2 : Int) (a1_3 : Int) (a1_4 : Int) (a1_5 : Int) (a1_6 : Int) (a1_7 : Int) (r : Bool) (h : laws_eqTrade.f a0_0 a0_1 a0_2 a0_3 a0_4 a0_5 a0_6 a0_7 a1_0 a1_1 a1_2 a1_3 a1_4 a1_5 a1_6 a1_7 = some r) : Good Try.prog 24 [.w (.ag [.sc (.i .i64 a0_0), .sc (.i .i64 a0_1), .sc (.i .i64 a0_2), .sc (.i .i64 a0_3), .sc (.i .i64 a0_4), .sc (.i .i64 a0_5), .sc (.i .i64 a0_6), .sc (.i .i64 a0_7)]), .w (.ag [.sc (.i .i64 a1_0), .sc (.i .i64 a1_1), .sc (.i .i64 a1_2), .sc (.i .i64 a1_3), .sc (.i .i64 a1_4), .sc (.i .i64 a1_5), .sc (.i .i64 a1_6), .sc (.i .i64 a1_7)])] [] (o24 r) := by
  refine fn_ok (k := k) O24_ok mixed Try.func24 (root := body Try.f24) (by kernel_rfl) z24_ok h24_ok ?_
  refine Lo.of (b := (if a0_0 = a1_0 then (if a0_1 = a1_1 then (if a0_2 = a1_2 then (if a0_3 = a1_3 then (if a0_4 = a1_4 then (if a0_5 = a1_5 then (if a0_6 = a1_6 then (if a0_7 = a1_7 then (some (o24 true)) else (some (o24 false))) else (some (o24 false))) else (some (o24 false))) else (some (o24 false))) else (some (o24 false))) else (some (o24 false))) else (some (o24 false))) else (some (o24 false)))) (c := (laws_eqTrade.f a0_0 a0_1 a0_2 a0_3 a0_4 a0_5 a0_6 a0_7 a1_0 a1_1 a1_2 a1_3 a1_4 a1_5 a1_6 a1_7).bind fun r => some (o24 r)) (by kernel_rfl) ?_ _ (by rw [h]; rfl)
  · unfold laws_eqTrade.f
    repeat' first
    | with_reducible exact none_L
    | with_reducible refine letB_L (fun _ _ => ?_)
    | with_reducible refine bind_L (fun _ => ?_)
    | with_reducible refine ite_L (fun _ => ?_) (fun _ => ?_)
    | with_reducible refine drop_L (by first | assumption | omega | (simp only [*, List.length_set]; done)) ?_
    | with_reducible refine let_L ?_
    | with_reducible refine some_L ?_
    | with_reducible refine letT_L ?_
    | with_reducible refine ite_I (by omega) (fun _ => ?_) (fun _ => ?_)
    | rfl
    | simp only [Bool.decide_eq_true]
    | exact Lo.refl _
    | (refine Lo.eq ?_; simp only [Bool.decide_eq_true]; done)
    | refine ite_L (fun _ => ?_) (fun _ => ?_)
theorem d24 : Sound Try.prog ⟨24, false, Q24⟩ := sound_of ⟨_, Try.func24, by kernel_rfl, by kernel_rfl⟩ fun k args hp Z K z h => by
  unfold Q24 at h
  split at h
  · obtain ⟨r, hr, hK⟩ := Option.bind_eq_some_iff.1 h
    exact ⟨_, hK, g24 k _ _ _ _ _ _ _ _ _ _ _ _ _ _ _ _ r hr⟩
  · cases h
def o12 (l0 : List S50) (l1 : List S50) (r : Bool) : Out Rw := ⟨[.c (.sc (.b r))], [.rows 0 (.e50 l0), .rows 0 (.e50 l1)]⟩
def Q12 : Mean Rw := fun k a h Z K => match a, h with
  | [.w (.c (.rw 0)), .w (.c (.rw 1))], [.rows 0 (.e50 l0), .rows 0 (.e50 l1)] => (laws_eqTradeS.f k l0 l1).bind fun r => K (o12 l0 l1 r)
  | _, _ => none
def O12 : List (Cal Rw) := [⟨24, false, Q24⟩]
theorem O12_ok : ∀ c ∈ O12, Sound Try.prog c := by
  intro c hc
  simp only [O12, List.mem_cons, List.not_mem_nil, or_false] at hc
  rcases hc with rfl
  · exact d24
def C12_0 : Nat → St Rw → Option (Out Rw) := fun k st => match st with
  | ⟨27, 2, 2, [(0, .w (.c (.rw 0))), (1, .w (.c (.rw 1))), (5, .w (.c (.sc (.i .i64 x5))))], [(0, .rows 0 (.e50 l0)), (1, .rows 0 (.e50 l1))]⟩ => (laws_eqTradeS.l0 k l0 l1 x5).bind fun r => some (o12 l0 l1 r)
  | _ => none
def K12 : List (Cut Rw) := [⟨[false, true, false, true, true], [0, 1, 5], C12_0⟩]
theorem e12_0 (k : Nat) (x5 : Int) (l0 : List S50) (l1 : List S50) : Lo (seg Try.prog O12 K12 k (body Try.f12) (kEnd Try.prog Try.f12.results.toList) [false, true, false, true, true] ⟨27, 2, 2, [(0, .w (.c (.rw 0))), (1, .w (.c (.rw 1))), (5, .w (.c (.sc (.i .i64 x5))))], [(0, .rows 0 (.e50 l0)), (1, .rows 0 (.e50 l1))]⟩) ((laws_eqTradeS.l0 (k + 1) l0 l1 x5).bind fun r => some (o12 l0 l1 r)) :=
  Lo.of (b := (if x5 < (l0.length : Int) then (if 0 ≤ x5 then (if x5 < (l0.length : Int) then (if 0 ≤ x5 then (if x5 < (l1.length : Int) then ((laws_eqTrade.f (rd_T50 l0 x5).f0 (rd_T50 l0 x5).f1 (rd_T50 l0 x5).f2 (rd_T50 l0 x5).f3 (rd_T50 l0 x5).f4 (rd_T50 l0 x5).f5 (rd_T50 l0 x5).f6 (rd_T50 l0 x5).f7 (rd_T50 l1 x5).f0 (rd_T50 l1 x5).f1 (rd_T50 l1 x5).f2 (rd_T50 l1 x5).f3 (rd_T50 l1 x5).f4 (rd_T50 l1 x5).f5 (rd_T50 l1 x5).f6 (rd_T50 l1 x5).f7).bind fun r4 => (if r4 = true then ((laws_eqTradeS.l0 k l0 l1 (RowKit.wrap64 (x5 + 1))).bind fun r => some (o12 l0 l1 r)) else (some (o12 l0 l1 false)))) else none) else none) else none) else none) else (some (o12 l0 l1 true)))) (by kernel_rfl) (by
    rw [laws_eqTradeS.l0]
    repeat' first
    | with_reducible exact none_L
    | with_reducible refine letB_L (fun _ _ => ?_)
    | with_reducible refine bind_L (fun _ => ?_)
    | with_reducible refine ite_L (fun _ => ?_) (fun _ => ?_)
    | with_reducible refine drop_L (by first | assumption | omega | (simp only [*, List.length_set]; done)) ?_
    | with_reducible refine let_L ?_
    | with_reducible refine some_L ?_
    | with_reducible refine letT_L ?_
    | with_reducible refine ite_I (by omega) (fun _ => ?_) (fun _ => ?_)
    | rfl
    | simp only [Bool.decide_eq_true]
    | exact Lo.refl _
    | (refine Lo.eq ?_; simp only [Bool.decide_eq_true]; done)
    | refine ite_L (fun _ => ?_) (fun _ => ?_))
theorem h12_0 (k : Nat) (st : St Rw) (out : Out Rw) (h : C12_0 (k + 1) st = some out) : seg Try.prog O12 K12 k (body Try.f12) (kEnd Try.prog Try.f12.results.toList) [false, true, false, true, true] st = some out := by
  unfold C12_0 at h
  split at h
  · exact e12_0 _ _ _ _ out h
  · cases h
theorem z12_ok : ∀ c ∈ K12, ∀ st, c.f 0 st = none := by
  intro c hc st
  simp only [K12, List.mem_cons, List.not_mem_nil, or_false] at hc
  rcases hc with rfl
  · show C12_0 0 st = none; unfold C12_0; split <;> rfl
theorem h12_ok : ∀ c ∈ K12, ∀ k st out, c.f (k + 1) st = some out → seg Try.prog O12 K12 k (body Try.f12) (kEnd Try.prog Try.f12.results.toList) c.p st = some out := by
  intro c hc k st out h
  simp only [K12, List.mem_cons, List.not_mem_nil, or_false] at hc
  rcases hc with rfl
  · exact h12_0 k st out h
theorem g12 (k : Nat) (l0 : List (S50)) (l1 : List (S50)) (r : Bool) (h : laws_eqTradeS.f k l0 l1 = some r) : Good Try.prog 12 [.w (.c (.rw 0)), .w (.c (.rw 1))] [.rows 0 (.e50 l0), .rows 0 (.e50 l1)] (o12 l0 l1 r) := by
  refine fn_ok (k := k) O12_ok mixed Try.func12 (root := body Try.f12) (by kernel_rfl) z12_ok h12_ok ?_
  refine Lo.of (b := (if (l0.length : Int) = (l1.length : Int) then ((laws_eqTradeS.l0 k l0 l1 0).bind fun r => some (o12 l0 l1 r)) else (some (o12 l0 l1 false)))) (c := (laws_eqTradeS.f k l0 l1).bind fun r => some (o12 l0 l1 r)) (by kernel_rfl) ?_ _ (by rw [h]; rfl)
  · unfold laws_eqTradeS.f
    repeat' first
    | with_reducible exact none_L
    | with_reducible refine letB_L (fun _ _ => ?_)
    | with_reducible refine bind_L (fun _ => ?_)
    | with_reducible refine ite_L (fun _ => ?_) (fun _ => ?_)
    | with_reducible refine drop_L (by first | assumption | omega | (simp only [*, List.length_set]; done)) ?_
    | with_reducible refine let_L ?_
    | with_reducible refine some_L ?_
    | with_reducible refine letT_L ?_
    | with_reducible refine ite_I (by omega) (fun _ => ?_) (fun _ => ?_)
    | rfl
    | simp only [Bool.decide_eq_true]
    | exact Lo.refl _
    | (refine Lo.eq ?_; simp only [Bool.decide_eq_true]; done)
    | refine ite_L (fun _ => ?_) (fun _ => ?_)
theorem d12 : Sound Try.prog ⟨12, false, Q12⟩ := sound_of ⟨_, Try.func12, by kernel_rfl, by kernel_rfl⟩ fun k args hp Z K z h => by
  unfold Q12 at h
  split at h
  · obtain ⟨r, hr, hK⟩ := Option.bind_eq_some_iff.1 h
    exact ⟨_, hK, g12 k _ _ r hr⟩
  · cases h
def o15 (l0_0 : List S88) (l0_1 : List S90) (l0_2 : List S93) (l0_3 : List S96) (l0_4 : List S50) (l1_0 : List S88) (l1_1 : List S90) (l1_2 : List S93) (l1_3 : List S96) (l1_4 : List S50) (r : Bool) : Out Rw := ⟨[.c (.sc (.b r))], [.rows 0 (.e88 l0_0), .rows 0 (.e90 l0_1), .rows 0 (.e93 l0_2), .rows 0 (.e96 l0_3), .rows 0 (.e50 l0_4), .rows 0 (.e88 l1_0), .rows 0 (.e90 l1_1), .rows 0 (.e93 l1_2), .rows 0 (.e96 l1_3), .rows 0 (.e50 l1_4)]⟩
def Q15 : Mean Rw := fun k a h Z K => match a, h with
  | [.w (.ag [.rw 0, .rw 1, .rw 2, .rw 3, .rw 4, .sc (.i .i64 a0_5)]), .w (.ag [.rw 5, .rw 6, .rw 7, .rw 8, .rw 9, .sc (.i .i64 a1_5)])], [.rows 0 (.e88 l0_0), .rows 0 (.e90 l0_1), .rows 0 (.e93 l0_2), .rows 0 (.e96 l0_3), .rows 0 (.e50 l0_4), .rows 0 (.e88 l1_0), .rows 0 (.e90 l1_1), .rows 0 (.e93 l1_2), .rows 0 (.e96 l1_3), .rows 0 (.e50 l1_4)] => (laws_eqBooks.f k l0_0 l0_1 l0_2 l0_3 l0_4 a0_5 l1_0 l1_1 l1_2 l1_3 l1_4 a1_5).bind fun r => K (o15 l0_0 l0_1 l0_2 l0_3 l0_4 l1_0 l1_1 l1_2 l1_3 l1_4 r)
  | _, _ => none
def O15 : List (Cal Rw) := [⟨36, false, Q36⟩, ⟨37, false, Q37⟩, ⟨38, false, Q38⟩, ⟨39, false, Q39⟩, ⟨12, false, Q12⟩]
theorem O15_ok : ∀ c ∈ O15, Sound Try.prog c := by
  intro c hc
  simp only [O15, List.mem_cons, List.not_mem_nil, or_false] at hc
  rcases hc with rfl | rfl | rfl | rfl | rfl
  · exact d36
  · exact d37
  · exact d38
  · exact d39
  · exact d12
def K15 : List (Cut Rw) := []
theorem z15_ok : ∀ c ∈ K15, ∀ st, c.f 0 st = none := by
  intro c hc st
  simp only [K15, List.mem_cons, List.not_mem_nil, or_false] at hc
theorem h15_ok : ∀ c ∈ K15, ∀ k st out, c.f (k + 1) st = some out → seg Try.prog O15 K15 k (body Try.f15) (kEnd Try.prog Try.f15.results.toList) c.p st = some out := by
  intro c hc k st out h
  simp only [K15, List.mem_cons, List.not_mem_nil, or_false] at hc
theorem g15 (k : Nat) (l0_0 : List (S88)) (l0_1 : List (S90)) (l0_2 : List (S93)) (l0_3 : List (S96)) (l0_4 : List (S50)) (a0_5 : Int) (l1_0 : List (S88)) (l1_1 : List (S90)) (l1_2 : List (S93)) (l1_3 : List (S96)) (l1_4 : List (S50)) (a1_5 : Int) (r : Bool) (h : laws_eqBooks.f k l0_0 l0_1 l0_2 l0_3 l0_4 a0_5 l1_0 l1_1 l1_2 l1_3 l1_4 a1_5 = some r) : Good Try.prog 15 [.w (.ag [.rw 0, .rw 1, .rw 2, .rw 3, .rw 4, .sc (.i .i64 a0_5)]), .w (.ag [.rw 5, .rw 6, .rw 7, .rw 8, .rw 9, .sc (.i .i64 a1_5)])] [.rows 0 (.e88 l0_0), .rows 0 (.e90 l0_1), .rows 0 (.e93 l0_2), .rows 0 (.e96 l0_3), .rows 0 (.e50 l0_4), .rows 0 (.e88 l1_0), .rows 0 (.e90 l1_1), .rows 0 (.e93 l1_2), .rows 0 (.e96 l1_3), .rows 0 (.e50 l1_4)] (o15 l0_0 l0_1 l0_2 l0_3 l0_4 l1_0 l1_1 l1_2 l1_3 l1_4 r) := by
  refine fn_ok (k := k) O15_ok mixed Try.func15 (root := body Try.f15) (by kernel_rfl) z15_ok h15_ok ?_
  refine Lo.of (b := ((laws_eqAccountS.f k l0_0 l1_0).bind fun r13 => (if r13 = true then ((laws_eqInstrS.f k l0_1 l1_1).bind fun r14 => (if r14 = true then ((laws_eqBalS.f k l0_2 l1_2).bind fun r15 => (if r15 = true then ((laws_eqLotS.f k l0_3 l1_3).bind fun r16 => (if r16 = true then ((laws_eqTradeS.f k l0_4 l1_4).bind fun r17 => (if r17 = true then (if a0_5 = a1_5 then (some (o15 l0_0 l0_1 l0_2 l0_3 l0_4 l1_0 l1_1 l1_2 l1_3 l1_4 true)) else (some (o15 l0_0 l0_1 l0_2 l0_3 l0_4 l1_0 l1_1 l1_2 l1_3 l1_4 false))) else (some (o15 l0_0 l0_1 l0_2 l0_3 l0_4 l1_0 l1_1 l1_2 l1_3 l1_4 false)))) else (some (o15 l0_0 l0_1 l0_2 l0_3 l0_4 l1_0 l1_1 l1_2 l1_3 l1_4 false)))) else (some (o15 l0_0 l0_1 l0_2 l0_3 l0_4 l1_0 l1_1 l1_2 l1_3 l1_4 false)))) else (some (o15 l0_0 l0_1 l0_2 l0_3 l0_4 l1_0 l1_1 l1_2 l1_3 l1_4 false)))) else (some (o15 l0_0 l0_1 l0_2 l0_3 l0_4 l1_0 l1_1 l1_2 l1_3 l1_4 false))))) (c := (laws_eqBooks.f k l0_0 l0_1 l0_2 l0_3 l0_4 a0_5 l1_0 l1_1 l1_2 l1_3 l1_4 a1_5).bind fun r => some (o15 l0_0 l0_1 l0_2 l0_3 l0_4 l1_0 l1_1 l1_2 l1_3 l1_4 r)) (by kernel_rfl) ?_ _ (by rw [h]; rfl)
  · unfold laws_eqBooks.f
    repeat' first
    | with_reducible exact none_L
    | with_reducible refine letB_L (fun _ _ => ?_)
    | with_reducible refine bind_L (fun _ => ?_)
    | with_reducible refine ite_L (fun _ => ?_) (fun _ => ?_)
    | with_reducible refine drop_L (by first | assumption | omega | (simp only [*, List.length_set]; done)) ?_
    | with_reducible refine let_L ?_
    | with_reducible refine some_L ?_
    | with_reducible refine letT_L ?_
    | with_reducible refine ite_I (by omega) (fun _ => ?_) (fun _ => ?_)
    | rfl
    | simp only [Bool.decide_eq_true]
    | exact Lo.refl _
    | (refine Lo.eq ?_; simp only [Bool.decide_eq_true]; done)
    | refine ite_L (fun _ => ?_) (fun _ => ?_)
theorem d15 : Sound Try.prog ⟨15, false, Q15⟩ := sound_of ⟨_, Try.func15, by kernel_rfl, by kernel_rfl⟩ fun k args hp Z K z h => by
  unfold Q15 at h
  split at h
  · obtain ⟨r, hr, hK⟩ := Option.bind_eq_some_iff.1 h
    exact ⟨_, hK, g15 k _ _ _ _ _ _ _ _ _ _ _ _ r hr⟩
  · cases h
def o40 (r : Int × (List (S88))) : Out Rw := ⟨[.c (.sc (.i .i64 r.1))], [.rows 1 (.e88 r.2)]⟩
def Q40 : Mean Rw := fun k a h Z K => match a, h with
  | [.w (.c (.rw 0)), .w (.c (.sc (.i .i64 a1)))], [.rows 1 (.e88 l0)] => (laws_markAccountS.f k l0 a1).bind fun r => K (o40 r)
  | _, _ => none
def O40 : List (Cal Rw) := []
theorem O40_ok : ∀ c ∈ O40, Sound Try.prog c := by
  intro c hc
  simp only [O40, List.mem_cons, List.not_mem_nil, or_false] at hc
def C40_0 : Nat → St Rw → Option (Out Rw) := fun k st => match st with
  | ⟨27, 1, 1, [(0, .w (.c (.rw 0))), (1, .w (.c (.sc (.i .i64 x1)))), (5, .w (.c (.sc (.i .i64 x5))))], [(0, .rows 1 (.e88 l0))]⟩ => (laws_markAccountS.l0 k l0 x1 x5).bind fun r => some (o40 r)
  | _ => none
def K40 : List (Cut Rw) := [⟨[false, true, false, true], [0, 1, 5], C40_0⟩]
theorem e40_0 (k : Nat) (x1 : Int) (x5 : Int) (l0 : List S88) : Lo (seg Try.prog O40 K40 k (body Try.f40) (kEnd Try.prog Try.f40.results.toList) [false, true, false, true] ⟨27, 1, 1, [(0, .w (.c (.rw 0))), (1, .w (.c (.sc (.i .i64 x1)))), (5, .w (.c (.sc (.i .i64 x5))))], [(0, .rows 1 (.e88 l0))]⟩) ((laws_markAccountS.l0 (k + 1) l0 x1 x5).bind fun r => some (o40 r)) :=
  Lo.of (b := (if x5 < (l0.length : Int) then (if 0 ≤ x5 then (if x5 < (l0.length : Int) then ((some (l0.set x5.toNat (⟨x1, (rd_T88 l0 x5).f1⟩ : S88))).bind fun y4 => (if 0 ≤ x5 then (if x5 < (y4.length : Int) then ((some (y4.set x5.toNat (⟨(rd_T88 y4 x5).f0, RowKit.wrap64 (x1 + 1)⟩ : S88))).bind fun y5 => ((laws_markAccountS.l0 k y5 (RowKit.wrap64 (RowKit.wrap64 (x1 + 1) + 1)) (RowKit.wrap64 (x5 + 1))).bind fun r => some (o40 r))) else none) else none)) else none) else none) else (some (o40 (x1, l0))))) (by kernel_rfl) (by
    rw [laws_markAccountS.l0]
    repeat' first
    | with_reducible exact none_L
    | with_reducible refine letB_L (fun _ _ => ?_)
    | with_reducible refine bind_L (fun _ => ?_)
    | with_reducible refine ite_L (fun _ => ?_) (fun _ => ?_)
    | with_reducible refine drop_L (by first | assumption | omega | (simp only [*, List.length_set]; done)) ?_
    | with_reducible refine let_L ?_
    | with_reducible refine some_L ?_
    | with_reducible refine letT_L ?_
    | with_reducible refine ite_I (by omega) (fun _ => ?_) (fun _ => ?_)
    | rfl
    | simp only [Bool.decide_eq_true]
    | exact Lo.refl _
    | (refine Lo.eq ?_; simp only [Bool.decide_eq_true]; done)
    | refine ite_L (fun _ => ?_) (fun _ => ?_))
theorem h40_0 (k : Nat) (st : St Rw) (out : Out Rw) (h : C40_0 (k + 1) st = some out) : seg Try.prog O40 K40 k (body Try.f40) (kEnd Try.prog Try.f40.results.toList) [false, true, false, true] st = some out := by
  unfold C40_0 at h
  split at h
  · exact e40_0 _ _ _ _ out h
  · cases h
theorem z40_ok : ∀ c ∈ K40, ∀ st, c.f 0 st = none := by
  intro c hc st
  simp only [K40, List.mem_cons, List.not_mem_nil, or_false] at hc
  rcases hc with rfl
  · show C40_0 0 st = none; unfold C40_0; split <;> rfl
theorem h40_ok : ∀ c ∈ K40, ∀ k st out, c.f (k + 1) st = some out → seg Try.prog O40 K40 k (body Try.f40) (kEnd Try.prog Try.f40.results.toList) c.p st = some out := by
  intro c hc k st out h
  simp only [K40, List.mem_cons, List.not_mem_nil, or_false] at hc
  rcases hc with rfl
  · exact h40_0 k st out h
theorem g40 (k : Nat) (l0 : List (S88)) (a1 : Int) (r : Int × (List (S88))) (h : laws_markAccountS.f k l0 a1 = some r) : Good Try.prog 40 [.w (.c (.rw 0)), .w (.c (.sc (.i .i64 a1)))] [.rows 1 (.e88 l0)] (o40 r) := by
  refine fn_ok (k := k) O40_ok mixed Try.func40 (root := body Try.f40) (by kernel_rfl) z40_ok h40_ok ?_
  refine Lo.of (b := ((laws_markAccountS.l0 k l0 a1 0).bind fun r => some (o40 r))) (c := (laws_markAccountS.f k l0 a1).bind fun r => some (o40 r)) (by kernel_rfl) ?_ _ (by rw [h]; rfl)
  · unfold laws_markAccountS.f
    repeat' first
    | with_reducible exact none_L
    | with_reducible refine letB_L (fun _ _ => ?_)
    | with_reducible refine bind_L (fun _ => ?_)
    | with_reducible refine ite_L (fun _ => ?_) (fun _ => ?_)
    | with_reducible refine drop_L (by first | assumption | omega | (simp only [*, List.length_set]; done)) ?_
    | with_reducible refine let_L ?_
    | with_reducible refine some_L ?_
    | with_reducible refine letT_L ?_
    | with_reducible refine ite_I (by omega) (fun _ => ?_) (fun _ => ?_)
    | rfl
    | simp only [Bool.decide_eq_true]
    | exact Lo.refl _
    | (refine Lo.eq ?_; simp only [Bool.decide_eq_true]; done)
    | refine ite_L (fun _ => ?_) (fun _ => ?_)
theorem d40 : Sound Try.prog ⟨40, true, Q40⟩ := sound_of ⟨_, Try.func40, by kernel_rfl, by kernel_rfl⟩ fun k args hp Z K z h => by
  unfold Q40 at h
  split at h
  · obtain ⟨r, hr, hK⟩ := Option.bind_eq_some_iff.1 h
    exact ⟨_, hK, g40 k _ _ r hr⟩
  · cases h
def o41 (r : Int × (List (S90))) : Out Rw := ⟨[.c (.sc (.i .i64 r.1))], [.rows 1 (.e90 r.2)]⟩
def Q41 : Mean Rw := fun k a h Z K => match a, h with
  | [.w (.c (.rw 0)), .w (.c (.sc (.i .i64 a1)))], [.rows 1 (.e90 l0)] => (laws_markInstrS.f k l0 a1).bind fun r => K (o41 r)
  | _, _ => none
def O41 : List (Cal Rw) := []
theorem O41_ok : ∀ c ∈ O41, Sound Try.prog c := by
  intro c hc
  simp only [O41, List.mem_cons, List.not_mem_nil, or_false] at hc
def C41_0 : Nat → St Rw → Option (Out Rw) := fun k st => match st with
  | ⟨27, 1, 1, [(0, .w (.c (.rw 0))), (1, .w (.c (.sc (.i .i64 x1)))), (5, .w (.c (.sc (.i .i64 x5))))], [(0, .rows 1 (.e90 l0))]⟩ => (laws_markInstrS.l0 k l0 x1 x5).bind fun r => some (o41 r)
  | _ => none
def K41 : List (Cut Rw) := [⟨[false, true, false, true], [0, 1, 5], C41_0⟩]
theorem e41_0 (k : Nat) (x1 : Int) (x5 : Int) (l0 : List S90) : Lo (seg Try.prog O41 K41 k (body Try.f41) (kEnd Try.prog Try.f41.results.toList) [false, true, false, true] ⟨27, 1, 1, [(0, .w (.c (.rw 0))), (1, .w (.c (.sc (.i .i64 x1)))), (5, .w (.c (.sc (.i .i64 x5))))], [(0, .rows 1 (.e90 l0))]⟩) ((laws_markInstrS.l0 (k + 1) l0 x1 x5).bind fun r => some (o41 r)) :=
  Lo.of (b := (if x5 < (l0.length : Int) then (if 0 ≤ x5 then (if x5 < (l0.length : Int) then ((some (l0.set x5.toNat (⟨x1, (rd_T90 l0 x5).f1⟩ : S90))).bind fun y4 => (if 0 ≤ x5 then (if x5 < (y4.length : Int) then ((some (y4.set x5.toNat (⟨(rd_T90 y4 x5).f0, RowKit.wrap64 (x1 + 1)⟩ : S90))).bind fun y5 => ((laws_markInstrS.l0 k y5 (RowKit.wrap64 (RowKit.wrap64 (x1 + 1) + 1)) (RowKit.wrap64 (x5 + 1))).bind fun r => some (o41 r))) else none) else none)) else none) else none) else (some (o41 (x1, l0))))) (by kernel_rfl) (by
    rw [laws_markInstrS.l0]
    repeat' first
    | with_reducible exact none_L
    | with_reducible refine letB_L (fun _ _ => ?_)
    | with_reducible refine bind_L (fun _ => ?_)
    | with_reducible refine ite_L (fun _ => ?_) (fun _ => ?_)
    | with_reducible refine drop_L (by first | assumption | omega | (simp only [*, List.length_set]; done)) ?_
    | with_reducible refine let_L ?_
    | with_reducible refine some_L ?_
    | with_reducible refine letT_L ?_
    | with_reducible refine ite_I (by omega) (fun _ => ?_) (fun _ => ?_)
    | rfl
    | simp only [Bool.decide_eq_true]
    | exact Lo.refl _
    | (refine Lo.eq ?_; simp only [Bool.decide_eq_true]; done)
    | refine ite_L (fun _ => ?_) (fun _ => ?_))
theorem h41_0 (k : Nat) (st : St Rw) (out : Out Rw) (h : C41_0 (k + 1) st = some out) : seg Try.prog O41 K41 k (body Try.f41) (kEnd Try.prog Try.f41.results.toList) [false, true, false, true] st = some out := by
  unfold C41_0 at h
  split at h
  · exact e41_0 _ _ _ _ out h
  · cases h
theorem z41_ok : ∀ c ∈ K41, ∀ st, c.f 0 st = none := by
  intro c hc st
  simp only [K41, List.mem_cons, List.not_mem_nil, or_false] at hc
  rcases hc with rfl
  · show C41_0 0 st = none; unfold C41_0; split <;> rfl
theorem h41_ok : ∀ c ∈ K41, ∀ k st out, c.f (k + 1) st = some out → seg Try.prog O41 K41 k (body Try.f41) (kEnd Try.prog Try.f41.results.toList) c.p st = some out := by
  intro c hc k st out h
  simp only [K41, List.mem_cons, List.not_mem_nil, or_false] at hc
  rcases hc with rfl
  · exact h41_0 k st out h
theorem g41 (k : Nat) (l0 : List (S90)) (a1 : Int) (r : Int × (List (S90))) (h : laws_markInstrS.f k l0 a1 = some r) : Good Try.prog 41 [.w (.c (.rw 0)), .w (.c (.sc (.i .i64 a1)))] [.rows 1 (.e90 l0)] (o41 r) := by
  refine fn_ok (k := k) O41_ok mixed Try.func41 (root := body Try.f41) (by kernel_rfl) z41_ok h41_ok ?_
  refine Lo.of (b := ((laws_markInstrS.l0 k l0 a1 0).bind fun r => some (o41 r))) (c := (laws_markInstrS.f k l0 a1).bind fun r => some (o41 r)) (by kernel_rfl) ?_ _ (by rw [h]; rfl)
  · unfold laws_markInstrS.f
    repeat' first
    | with_reducible exact none_L
    | with_reducible refine letB_L (fun _ _ => ?_)
    | with_reducible refine bind_L (fun _ => ?_)
    | with_reducible refine ite_L (fun _ => ?_) (fun _ => ?_)
    | with_reducible refine drop_L (by first | assumption | omega | (simp only [*, List.length_set]; done)) ?_
    | with_reducible refine let_L ?_
    | with_reducible refine some_L ?_
    | with_reducible refine letT_L ?_
    | with_reducible refine ite_I (by omega) (fun _ => ?_) (fun _ => ?_)
    | rfl
    | simp only [Bool.decide_eq_true]
    | exact Lo.refl _
    | (refine Lo.eq ?_; simp only [Bool.decide_eq_true]; done)
    | refine ite_L (fun _ => ?_) (fun _ => ?_)
theorem d41 : Sound Try.prog ⟨41, true, Q41⟩ := sound_of ⟨_, Try.func41, by kernel_rfl, by kernel_rfl⟩ fun k args hp Z K z h => by
  unfold Q41 at h
  split at h
  · obtain ⟨r, hr, hK⟩ := Option.bind_eq_some_iff.1 h
    exact ⟨_, hK, g41 k _ _ r hr⟩
  · cases h
def o42 (r : Int × (List (S93))) : Out Rw := ⟨[.c (.sc (.i .i64 r.1))], [.rows 1 (.e93 r.2)]⟩
def Q42 : Mean Rw := fun k a h Z K => match a, h with
  | [.w (.c (.rw 0)), .w (.c (.sc (.i .i64 a1)))], [.rows 1 (.e93 l0)] => (laws_markBalS.f k l0 a1).bind fun r => K (o42 r)
  | _, _ => none
def O42 : List (Cal Rw) := []
theorem O42_ok : ∀ c ∈ O42, Sound Try.prog c := by
  intro c hc
  simp only [O42, List.mem_cons, List.not_mem_nil, or_false] at hc
def C42_0 : Nat → St Rw → Option (Out Rw) := fun k st => match st with
  | ⟨34, 1, 1, [(0, .w (.c (.rw 0))), (1, .w (.c (.sc (.i .i64 x1)))), (5, .w (.c (.sc (.i .i64 x5))))], [(0, .rows 1 (.e93 l0))]⟩ => (laws_markBalS.l0 k l0 x1 x5).bind fun r => some (o42 r)
  | _ => none
def K42 : List (Cut Rw) := [⟨[false, true, false, true], [0, 1, 5], C42_0⟩]
theorem e42_0 (k : Nat) (x1 : Int) (x5 : Int) (l0 : List S93) : Lo (seg Try.prog O42 K42 k (body Try.f42) (kEnd Try.prog Try.f42.results.toList) [false, true, false, true] ⟨34, 1, 1, [(0, .w (.c (.rw 0))), (1, .w (.c (.sc (.i .i64 x1)))), (5, .w (.c (.sc (.i .i64 x5))))], [(0, .rows 1 (.e93 l0))]⟩) ((laws_markBalS.l0 (k + 1) l0 x1 x5).bind fun r => some (o42 r)) :=
  Lo.of (b := (if x5 < (l0.length : Int) then (if 0 ≤ x5 then (if x5 < (l0.length : Int) then ((some (l0.set x5.toNat (⟨x1, (rd_T93 l0 x5).f1, (rd_T93 l0 x5).f2⟩ : S93))).bind fun y4 => (if 0 ≤ x5 then (if x5 < (y4.length : Int) then ((some (y4.set x5.toNat (⟨(rd_T93 y4 x5).f0, RowKit.wrap64 (x1 + 1), (rd_T93 y4 x5).f2⟩ : S93))).bind fun y5 => (if 0 ≤ x5 then (if x5 < (y5.length : Int) then ((some (y5.set x5.toNat (⟨(rd_T93 y5 x5).f0, (rd_T93 y5 x5).f1, RowKit.wrap64 (RowKit.wrap64 (x1 + 1) + 1)⟩ : S93))).bind fun y6 => ((laws_markBalS.l0 k y6 (RowKit.wrap64 (RowKit.wrap64 (RowKit.wrap64 (x1 + 1) + 1) + 1)) (RowKit.wrap64 (x5 + 1))).bind fun r => some (o42 r))) else none) else none)) else none) else none)) else none) else none) else (some (o42 (x1, l0))))) (by kernel_rfl) (by
    rw [laws_markBalS.l0]
    repeat' first
    | with_reducible exact none_L
    | with_reducible refine letB_L (fun _ _ => ?_)
    | with_reducible refine bind_L (fun _ => ?_)
    | with_reducible refine ite_L (fun _ => ?_) (fun _ => ?_)
    | with_reducible refine drop_L (by first | assumption | omega | (simp only [*, List.length_set]; done)) ?_
    | with_reducible refine let_L ?_
    | with_reducible refine some_L ?_
    | with_reducible refine letT_L ?_
    | with_reducible refine ite_I (by omega) (fun _ => ?_) (fun _ => ?_)
    | rfl
    | simp only [Bool.decide_eq_true]
    | exact Lo.refl _
    | (refine Lo.eq ?_; simp only [Bool.decide_eq_true]; done)
    | refine ite_L (fun _ => ?_) (fun _ => ?_))
theorem h42_0 (k : Nat) (st : St Rw) (out : Out Rw) (h : C42_0 (k + 1) st = some out) : seg Try.prog O42 K42 k (body Try.f42) (kEnd Try.prog Try.f42.results.toList) [false, true, false, true] st = some out := by
  unfold C42_0 at h
  split at h
  · exact e42_0 _ _ _ _ out h
  · cases h
theorem z42_ok : ∀ c ∈ K42, ∀ st, c.f 0 st = none := by
  intro c hc st
  simp only [K42, List.mem_cons, List.not_mem_nil, or_false] at hc
  rcases hc with rfl
  · show C42_0 0 st = none; unfold C42_0; split <;> rfl
theorem h42_ok : ∀ c ∈ K42, ∀ k st out, c.f (k + 1) st = some out → seg Try.prog O42 K42 k (body Try.f42) (kEnd Try.prog Try.f42.results.toList) c.p st = some out := by
  intro c hc k st out h
  simp only [K42, List.mem_cons, List.not_mem_nil, or_false] at hc
  rcases hc with rfl
  · exact h42_0 k st out h
theorem g42 (k : Nat) (l0 : List (S93)) (a1 : Int) (r : Int × (List (S93))) (h : laws_markBalS.f k l0 a1 = some r) : Good Try.prog 42 [.w (.c (.rw 0)), .w (.c (.sc (.i .i64 a1)))] [.rows 1 (.e93 l0)] (o42 r) := by
  refine fn_ok (k := k) O42_ok mixed Try.func42 (root := body Try.f42) (by kernel_rfl) z42_ok h42_ok ?_
  refine Lo.of (b := ((laws_markBalS.l0 k l0 a1 0).bind fun r => some (o42 r))) (c := (laws_markBalS.f k l0 a1).bind fun r => some (o42 r)) (by kernel_rfl) ?_ _ (by rw [h]; rfl)
  · unfold laws_markBalS.f
    repeat' first
    | with_reducible exact none_L
    | with_reducible refine letB_L (fun _ _ => ?_)
    | with_reducible refine bind_L (fun _ => ?_)
    | with_reducible refine ite_L (fun _ => ?_) (fun _ => ?_)
    | with_reducible refine drop_L (by first | assumption | omega | (simp only [*, List.length_set]; done)) ?_
    | with_reducible refine let_L ?_
    | with_reducible refine some_L ?_
    | with_reducible refine letT_L ?_
    | with_reducible refine ite_I (by omega) (fun _ => ?_) (fun _ => ?_)
    | rfl
    | simp only [Bool.decide_eq_true]
    | exact Lo.refl _
    | (refine Lo.eq ?_; simp only [Bool.decide_eq_true]; done)
    | refine ite_L (fun _ => ?_) (fun _ => ?_)
theorem d42 : Sound Try.prog ⟨42, true, Q42⟩ := sound_of ⟨_, Try.func42, by kernel_rfl, by kernel_rfl⟩ fun k args hp Z K z h => by
  unfold Q42 at h
  split at h
  · obtain ⟨r, hr, hK⟩ := Option.bind_eq_some_iff.1 h
    exact ⟨_, hK, g42 k _ _ r hr⟩
  · cases h
def o43 (r : Int × (List (S96))) : Out Rw := ⟨[.c (.sc (.i .i64 r.1))], [.rows 1 (.e96 r.2)]⟩
def Q43 : Mean Rw := fun k a h Z K => match a, h with
  | [.w (.c (.rw 0)), .w (.c (.sc (.i .i64 a1)))], [.rows 1 (.e96 l0)] => (laws_markLotS.f k l0 a1).bind fun r => K (o43 r)
  | _, _ => none
def O43 : List (Cal Rw) := []
theorem O43_ok : ∀ c ∈ O43, Sound Try.prog c := by
  intro c hc
  simp only [O43, List.mem_cons, List.not_mem_nil, or_false] at hc
def C43_0 : Nat → St Rw → Option (Out Rw) := fun k st => match st with
  | ⟨48, 1, 1, [(0, .w (.c (.rw 0))), (1, .w (.c (.sc (.i .i64 x1)))), (5, .w (.c (.sc (.i .i64 x5))))], [(0, .rows 1 (.e96 l0))]⟩ => (laws_markLotS.l0 k l0 x1 x5).bind fun r => some (o43 r)
  | _ => none
def K43 : List (Cut Rw) := [⟨[false, true, false, true], [0, 1, 5], C43_0⟩]
theorem e43_0 (k : Nat) (x1 : Int) (x5 : Int) (l0 : List S96) : Lo (seg Try.prog O43 K43 k (body Try.f43) (kEnd Try.prog Try.f43.results.toList) [false, true, false, true] ⟨48, 1, 1, [(0, .w (.c (.rw 0))), (1, .w (.c (.sc (.i .i64 x1)))), (5, .w (.c (.sc (.i .i64 x5))))], [(0, .rows 1 (.e96 l0))]⟩) ((laws_markLotS.l0 (k + 1) l0 x1 x5).bind fun r => some (o43 r)) :=
  Lo.of (b := (if x5 < (l0.length : Int) then (if 0 ≤ x5 then (if x5 < (l0.length : Int) then ((some (l0.set x5.toNat (⟨x1, (rd_T96 l0 x5).f1, (rd_T96 l0 x5).f2, (rd_T96 l0 x5).f3, (rd_T96 l0 x5).f4⟩ : S96))).bind fun y4 => (if 0 ≤ x5 then (if x5 < (y4.length : Int) then ((some (y4.set x5.toNat (⟨(rd_T96 y4 x5).f0, RowKit.wrap64 (x1 + 1), (rd_T96 y4 x5).f2, (rd_T96 y4 x5).f3, (rd_T96 y4 x5).f4⟩ : S96))).bind fun y5 => (if 0 ≤ x5 then (if x5 < (y5.length : Int) then ((some (y5.set x5.toNat (⟨(rd_T96 y5 x5).f0, (rd_T96 y5 x5).f1, RowKit.wrap64 (RowKit.wrap64 (x1 + 1) + 1), (rd_T96 y5 x5).f3, (rd_T96 y5 x5).f4⟩ : S96))).bind fun y6 => (if 0 ≤ x5 then (if x5 < (y6.length : Int) then ((some (y6.set x5.toNat (⟨(rd_T96 y6 x5).f0, (rd_T96 y6 x5).f1, (rd_T96 y6 x5).f2, RowKit.wrap64 (RowKit.wrap64 (RowKit.wrap64 (x1 + 1) + 1) + 1), (rd_T96 y6 x5).f4⟩ : S96))).bind fun y7 => (if 0 ≤ x5 then (if x5 < (y7.length : Int) then ((some (y7.set x5.toNat (⟨(rd_T96 y7 x5).f0, (rd_T96 y7 x5).f1, (rd_T96 y7 x5).f2, (rd_T96 y7 x5).f3, RowKit.wrap64 (RowKit.wrap64 (RowKit.wrap64 (RowKit.wrap64 (x1 + 1) + 1) + 1) + 1)⟩ : S96))).bind fun y8 => ((laws_markLotS.l0 k y8 (RowKit.wrap64 (RowKit.wrap64 (RowKit.wrap64 (RowKit.wrap64 (RowKit.wrap64 (x1 + 1) + 1) + 1) + 1) + 1)) (RowKit.wrap64 (x5 + 1))).bind fun r => some (o43 r))) else none) else none)) else none) else none)) else none) else none)) else none) else none)) else none) else none) else (some (o43 (x1, l0))))) (by kernel_rfl) (by
    rw [laws_markLotS.l0]
    repeat' first
    | with_reducible exact none_L
    | with_reducible refine letB_L (fun _ _ => ?_)
    | with_reducible refine bind_L (fun _ => ?_)
    | with_reducible refine ite_L (fun _ => ?_) (fun _ => ?_)
    | with_reducible refine drop_L (by first | assumption | omega | (simp only [*, List.length_set]; done)) ?_
    | with_reducible refine let_L ?_
    | with_reducible refine some_L ?_
    | with_reducible refine letT_L ?_
    | with_reducible refine ite_I (by omega) (fun _ => ?_) (fun _ => ?_)
    | rfl
    | simp only [Bool.decide_eq_true]
    | exact Lo.refl _
    | (refine Lo.eq ?_; simp only [Bool.decide_eq_true]; done)
    | refine ite_L (fun _ => ?_) (fun _ => ?_))
theorem h43_0 (k : Nat) (st : St Rw) (out : Out Rw) (h : C43_0 (k + 1) st = some out) : seg Try.prog O43 K43 k (body Try.f43) (kEnd Try.prog Try.f43.results.toList) [false, true, false, true] st = some out := by
  unfold C43_0 at h
  split at h
  · exact e43_0 _ _ _ _ out h
  · cases h
theorem z43_ok : ∀ c ∈ K43, ∀ st, c.f 0 st = none := by
  intro c hc st
  simp only [K43, List.mem_cons, List.not_mem_nil, or_false] at hc
  rcases hc with rfl
  · show C43_0 0 st = none; unfold C43_0; split <;> rfl
theorem h43_ok : ∀ c ∈ K43, ∀ k st out, c.f (k + 1) st = some out → seg Try.prog O43 K43 k (body Try.f43) (kEnd Try.prog Try.f43.results.toList) c.p st = some out := by
  intro c hc k st out h
  simp only [K43, List.mem_cons, List.not_mem_nil, or_false] at hc
  rcases hc with rfl
  · exact h43_0 k st out h
theorem g43 (k : Nat) (l0 : List (S96)) (a1 : Int) (r : Int × (List (S96))) (h : laws_markLotS.f k l0 a1 = some r) : Good Try.prog 43 [.w (.c (.rw 0)), .w (.c (.sc (.i .i64 a1)))] [.rows 1 (.e96 l0)] (o43 r) := by
  refine fn_ok (k := k) O43_ok mixed Try.func43 (root := body Try.f43) (by kernel_rfl) z43_ok h43_ok ?_
  refine Lo.of (b := ((laws_markLotS.l0 k l0 a1 0).bind fun r => some (o43 r))) (c := (laws_markLotS.f k l0 a1).bind fun r => some (o43 r)) (by kernel_rfl) ?_ _ (by rw [h]; rfl)
  · unfold laws_markLotS.f
    repeat' first
    | with_reducible exact none_L
    | with_reducible refine letB_L (fun _ _ => ?_)
    | with_reducible refine bind_L (fun _ => ?_)
    | with_reducible refine ite_L (fun _ => ?_) (fun _ => ?_)
    | with_reducible refine drop_L (by first | assumption | omega | (simp only [*, List.length_set]; done)) ?_
    | with_reducible refine let_L ?_
    | with_reducible refine some_L ?_
    | with_reducible refine letT_L ?_
    | with_reducible refine ite_I (by omega) (fun _ => ?_) (fun _ => ?_)
    | rfl
    | simp only [Bool.decide_eq_true]
    | exact Lo.refl _
    | (refine Lo.eq ?_; simp only [Bool.decide_eq_true]; done)
    | refine ite_L (fun _ => ?_) (fun _ => ?_)
theorem d43 : Sound Try.prog ⟨43, true, Q43⟩ := sound_of ⟨_, Try.func43, by kernel_rfl, by kernel_rfl⟩ fun k args hp Z K z h => by
  unfold Q43 at h
  split at h
  · obtain ⟨r, hr, hK⟩ := Option.bind_eq_some_iff.1 h
    exact ⟨_, hK, g43 k _ _ r hr⟩
  · cases h
end Go.Proofs.Ytmfgajbkcnlkcaa.AI
namespace Go.Proofs.Ytmfgajbkcnlkcaa.AI
open Go Go.RowKit Go.Proofs.YtmfgajbkcnlkcaaW.PrintWords Go.Proofs.Ytmfgajbkcnlkcaa.P
set_option linter.unusedVariables false
set_option linter.all false
set_option maxRecDepth 100000
def o44 (r : Int × (List (S50))) : Out Rw := ⟨[.c (.sc (.i .i64 r.1))], [.rows 1 (.e50 r.2)]⟩
def Q44 : Mean Rw := fun k a h Z K => match a, h with
  | [.w (.c (.rw 0)), .w (.c (.sc (.i .i64 a1)))], [.rows 1 (.e50 l0)] => (laws_markTradeS.f k l0 a1).bind fun r => K (o44 r)
  | _, _ => none
def O44 : List (Cal Rw) := []
theorem O44_ok : ∀ c ∈ O44, Sound Try.prog c := by
  intro c hc
  simp only [O44, List.mem_cons, List.not_mem_nil, or_false] at hc
def C44_0 : Nat → St Rw → Option (Out Rw) := fun k st => match st with
  | ⟨69, 1, 1, [(0, .w (.c (.rw 0))), (1, .w (.c (.sc (.i .i64 x1)))), (5, .w (.c (.sc (.i .i64 x5))))], [(0, .rows 1 (.e50 l0))]⟩ => (laws_markTradeS.l0 k l0 x1 x5).bind fun r => some (o44 r)
  | _ => none
def K44 : List (Cut Rw) := [⟨[false, true, false, true], [0, 1, 5], C44_0⟩]
theorem e44_0 (k : Nat) (x1 : Int) (x5 : Int) (l0 : List S50) : Lo (seg Try.prog O44 K44 k (body Try.f44) (kEnd Try.prog Try.f44.results.toList) [false, true, false, true] ⟨69, 1, 1, [(0, .w (.c (.rw 0))), (1, .w (.c (.sc (.i .i64 x1)))), (5, .w (.c (.sc (.i .i64 x5))))], [(0, .rows 1 (.e50 l0))]⟩) ((laws_markTradeS.l0 (k + 1) l0 x1 x5).bind fun r => some (o44 r)) :=
  Lo.of (b := (if x5 < (l0.length : Int) then (if 0 ≤ x5 then (if x5 < (l0.length : Int) then ((some (l0.set x5.toNat (⟨x1, (rd_T50 l0 x5).f1, (rd_T50 l0 x5).f2, (rd_T50 l0 x5).f3, (rd_T50 l0 x5).f4, (rd_T50 l0 x5).f5, (rd_T50 l0 x5).f6, (rd_T50 l0 x5).f7⟩ : S50))).bind fun y4 => (if 0 ≤ x5 then (if x5 < (y4.length : Int) then ((some (y4.set x5.toNat (⟨(rd_T50 y4 x5).f0, RowKit.wrap64 (x1 + 1), (rd_T50 y4 x5).f2, (rd_T50 y4 x5).f3, (rd_T50 y4 x5).f4, (rd_T50 y4 x5).f5, (rd_T50 y4 x5).f6, (rd_T50 y4 x5).f7⟩ : S50))).bind fun y5 => (if 0 ≤ x5 then (if x5 < (y5.length : Int) then ((some (y5.set x5.toNat (⟨(rd_T50 y5 x5).f0, (rd_T50 y5 x5).f1, RowKit.wrap64 (RowKit.wrap64 (x1 + 1) + 1), (rd_T50 y5 x5).f3, (rd_T50 y5 x5).f4, (rd_T50 y5 x5).f5, (rd_T50 y5 x5).f6, (rd_T50 y5 x5).f7⟩ : S50))).bind fun y6 => (if 0 ≤ x5 then (if x5 < (y6.length : Int) then ((some (y6.set x5.toNat (⟨(rd_T50 y6 x5).f0, (rd_T50 y6 x5).f1, (rd_T50 y6 x5).f2, RowKit.wrap64 (RowKit.wrap64 (RowKit.wrap64 (x1 + 1) + 1) + 1), (rd_T50 y6 x5).f4, (rd_T50 y6 x5).f5, (rd_T50 y6 x5).f6, (rd_T50 y6 x5).f7⟩ : S50))).bind fun y7 => (if 0 ≤ x5 then (if x5 < (y7.length : Int) then ((some (y7.set x5.toNat (⟨(rd_T50 y7 x5).f0, (rd_T50 y7 x5).f1, (rd_T50 y7 x5).f2, (rd_T50 y7 x5).f3, RowKit.wrap64 (RowKit.wrap64 (RowKit.wrap64 (RowKit.wrap64 (x1 + 1) + 1) + 1) + 1), (rd_T50 y7 x5).f5, (rd_T50 y7 x5).f6, (rd_T50 y7 x5).f7⟩ : S50))).bind fun y8 => (if 0 ≤ x5 then (if x5 < (y8.length : Int) then ((some (y8.set x5.toNat (⟨(rd_T50 y8 x5).f0, (rd_T50 y8 x5).f1, (rd_T50 y8 x5).f2, (rd_T50 y8 x5).f3, (rd_T50 y8 x5).f4, RowKit.wrap64 (RowKit.wrap64 (RowKit.wrap64 (RowKit.wrap64 (RowKit.wrap64 (x1 + 1) + 1) + 1) + 1) + 1), (rd_T50 y8 x5).f6, (rd_T50 y8 x5).f7⟩ : S50))).bind fun y9 => (if 0 ≤ x5 then (if x5 < (y9.length : Int) then ((some (y9.set x5.toNat (⟨(rd_T50 y9 x5).f0, (rd_T50 y9 x5).f1, (rd_T50 y9 x5).f2, (rd_T50 y9 x5).f3, (rd_T50 y9 x5).f4, (rd_T50 y9 x5).f5, RowKit.wrap64 (RowKit.wrap64 (RowKit.wrap64 (RowKit.wrap64 (RowKit.wrap64 (RowKit.wrap64 (x1 + 1) + 1) + 1) + 1) + 1) + 1), (rd_T50 y9 x5).f7⟩ : S50))).bind fun y10 => (if 0 ≤ x5 then (if x5 < (y10.length : Int) then ((some (y10.set x5.toNat (⟨(rd_T50 y10 x5).f0, (rd_T50 y10 x5).f1, (rd_T50 y10 x5).f2, (rd_T50 y10 x5).f3, (rd_T50 y10 x5).f4, (rd_T50 y10 x5).f5, (rd_T50 y10 x5).f6, RowKit.wrap64 (RowKit.wrap64 (RowKit.wrap64 (RowKit.wrap64 (RowKit.wrap64 (RowKit.wrap64 (RowKit.wrap64 (x1 + 1) + 1) + 1) + 1) + 1) + 1) + 1)⟩ : S50))).bind fun y11 => ((laws_markTradeS.l0 k y11 (RowKit.wrap64 (RowKit.wrap64 (RowKit.wrap64 (RowKit.wrap64 (RowKit.wrap64 (RowKit.wrap64 (RowKit.wrap64 (RowKit.wrap64 (x1 + 1) + 1) + 1) + 1) + 1) + 1) + 1) + 1)) (RowKit.wrap64 (x5 + 1))).bind fun r => some (o44 r))) else none) else none)) else none) else none)) else none) else none)) else none) else none)) else none) else none)) else none) else none)) else none) else none)) else none) else none) else (some (o44 (x1, l0))))) (by kernel_rfl) (by
    rw [laws_markTradeS.l0]
    repeat' first
    | with_reducible exact none_L
    | with_reducible refine letB_L (fun _ _ => ?_)
    | with_reducible refine bind_L (fun _ => ?_)
    | with_reducible refine ite_L (fun _ => ?_) (fun _ => ?_)
    | with_reducible refine drop_L (by first | assumption | omega | (simp only [*, List.length_set]; done)) ?_
    | with_reducible refine let_L ?_
    | with_reducible refine some_L ?_
    | with_reducible refine letT_L ?_
    | with_reducible refine ite_I (by omega) (fun _ => ?_) (fun _ => ?_)
    | rfl
    | simp only [Bool.decide_eq_true]
    | exact Lo.refl _
    | (refine Lo.eq ?_; simp only [Bool.decide_eq_true]; done)
    | refine ite_L (fun _ => ?_) (fun _ => ?_))
theorem h44_0 (k : Nat) (st : St Rw) (out : Out Rw) (h : C44_0 (k + 1) st = some out) : seg Try.prog O44 K44 k (body Try.f44) (kEnd Try.prog Try.f44.results.toList) [false, true, false, true] st = some out := by
  unfold C44_0 at h
  split at h
  · exact e44_0 _ _ _ _ out h
  · cases h
theorem z44_ok : ∀ c ∈ K44, ∀ st, c.f 0 st = none := by
  intro c hc st
  simp only [K44, List.mem_cons, List.not_mem_nil, or_false] at hc
  rcases hc with rfl
  · show C44_0 0 st = none; unfold C44_0; split <;> rfl
theorem h44_ok : ∀ c ∈ K44, ∀ k st out, c.f (k + 1) st = some out → seg Try.prog O44 K44 k (body Try.f44) (kEnd Try.prog Try.f44.results.toList) c.p st = some out := by
  intro c hc k st out h
  simp only [K44, List.mem_cons, List.not_mem_nil, or_false] at hc
  rcases hc with rfl
  · exact h44_0 k st out h
theorem g44 (k : Nat) (l0 : List (S50)) (a1 : Int) (r : Int × (List (S50))) (h : laws_markTradeS.f k l0 a1 = some r) : Good Try.prog 44 [.w (.c (.rw 0)), .w (.c (.sc (.i .i64 a1)))] [.rows 1 (.e50 l0)] (o44 r) := by
  refine fn_ok (k := k) O44_ok mixed Try.func44 (root := body Try.f44) (by kernel_rfl) z44_ok h44_ok ?_
  refine Lo.of (b := ((laws_markTradeS.l0 k l0 a1 0).bind fun r => some (o44 r))) (c := (laws_markTradeS.f k l0 a1).bind fun r => some (o44 r)) (by kernel_rfl) ?_ _ (by rw [h]; rfl)
  · unfold laws_markTradeS.f
    repeat' first
    | with_reducible exact none_L
    | with_reducible refine letB_L (fun _ _ => ?_)
    | with_reducible refine bind_L (fun _ => ?_)
    | with_reducible refine ite_L (fun _ => ?_) (fun _ => ?_)
    | with_reducible refine drop_L (by first | assumption | omega | (simp only [*, List.length_set]; done)) ?_
    | with_reducible refine let_L ?_
    | with_reducible refine some_L ?_
    | with_reducible refine letT_L ?_
    | with_reducible refine ite_I (by omega) (fun _ => ?_) (fun _ => ?_)
    | rfl
    | simp only [Bool.decide_eq_true]
    | exact Lo.refl _
    | (refine Lo.eq ?_; simp only [Bool.decide_eq_true]; done)
    | refine ite_L (fun _ => ?_) (fun _ => ?_)
theorem d44 : Sound Try.prog ⟨44, true, Q44⟩ := sound_of ⟨_, Try.func44, by kernel_rfl, by kernel_rfl⟩ fun k args hp Z K z h => by
  unfold Q44 at h
  split at h
  · obtain ⟨r, hr, hK⟩ := Option.bind_eq_some_iff.1 h
    exact ⟨_, hK, g44 k _ _ r hr⟩
  · cases h
def o16 (r : Int × (List (S88)) × (List (S90)) × (List (S93)) × (List (S96)) × (List (S50))) : Out Rw := ⟨[.c (.sc (.i .i64 r.1))], [.rows 1 (.e88 r.2.1), .rows 1 (.e90 r.2.2.1), .rows 1 (.e93 r.2.2.2.1), .rows 1 (.e96 r.2.2.2.2.1), .rows 1 (.e50 r.2.2.2.2.2)]⟩
def Q16 : Mean Rw := fun k a h Z K => match a, h with
  | [.w (.ag [.rw 0, .rw 1, .rw 2, .rw 3, .rw 4, .sc (.i .i64 a0_5)]), .w (.c (.sc (.i .i64 a1)))], [.rows 1 (.e88 l0_0), .rows 1 (.e90 l0_1), .rows 1 (.e93 l0_2), .rows 1 (.e96 l0_3), .rows 1 (.e50 l0_4)] => (laws_markBooks.f k l0_0 l0_1 l0_2 l0_3 l0_4 a0_5 a1).bind fun r => K (o16 r)
  | _, _ => none
def O16 : List (Cal Rw) := [⟨40, true, Q40⟩, ⟨41, true, Q41⟩, ⟨42, true, Q42⟩, ⟨43, true, Q43⟩, ⟨44, true, Q44⟩]
theorem O16_ok : ∀ c ∈ O16, Sound Try.prog c := by
  intro c hc
  simp only [O16, List.mem_cons, List.not_mem_nil, or_false] at hc
  rcases hc with rfl | rfl | rfl | rfl | rfl
  · exact d40
  · exact d41
  · exact d42
  · exact d43
  · exact d44
def K16 : List (Cut Rw) := []
theorem z16_ok : ∀ c ∈ K16, ∀ st, c.f 0 st = none := by
  intro c hc st
  simp only [K16, List.mem_cons, List.not_mem_nil, or_false] at hc
theorem h16_ok : ∀ c ∈ K16, ∀ k st out, c.f (k + 1) st = some out → seg Try.prog O16 K16 k (body Try.f16) (kEnd Try.prog Try.f16.results.toList) c.p st = some out := by
  intro c hc k st out h
  simp only [K16, List.mem_cons, List.not_mem_nil, or_false] at hc
theorem g16 (k : Nat) (l0_0 : List (S88)) (l0_1 : List (S90)) (l0_2 : List (S93)) (l0_3 : List (S96)) (l0_4 : List (S50)) (a0_5 : Int) (a1 : Int) (r : Int × (List (S88)) × (List (S90)) × (List (S93)) × (List (S96)) × (List (S50))) (h : laws_markBooks.f k l0_0 l0_1 l0_2 l0_3 l0_4 a0_5 a1 = some r) : Good Try.prog 16 [.w (.ag [.rw 0, .rw 1, .rw 2, .rw 3, .rw 4, .sc (.i .i64 a0_5)]), .w (.c (.sc (.i .i64 a1)))] [.rows 1 (.e88 l0_0), .rows 1 (.e90 l0_1), .rows 1 (.e93 l0_2), .rows 1 (.e96 l0_3), .rows 1 (.e50 l0_4)] (o16 r) := by
  refine fn_ok (k := k) O16_ok mixed Try.func16 (root := body Try.f16) (by kernel_rfl) z16_ok h16_ok ?_
  refine Lo.of (b := ((laws_markAccountS.f k l0_0 a1).bind fun r8 => ((laws_markInstrS.f k l0_1 r8.1).bind fun r9 => ((laws_markBalS.f k l0_2 r9.1).bind fun r10 => ((laws_markLotS.f k l0_3 r10.1).bind fun r11 => ((laws_markTradeS.f k l0_4 r11.1).bind fun r12 => (some (o16 (r12.1, r8.2, r9.2, r10.2, r11.2, r12.2))))))))) (c := (laws_markBooks.f k l0_0 l0_1 l0_2 l0_3 l0_4 a0_5 a1).bind fun r => some (o16 r)) (by kernel_rfl) ?_ _ (by rw [h]; rfl)
  · unfold laws_markBooks.f
    repeat' first
    | with_reducible exact none_L
    | with_reducible refine letB_L (fun _ _ => ?_)
    | with_reducible refine bind_L (fun _ => ?_)
    | with_reducible refine ite_L (fun _ => ?_) (fun _ => ?_)
    | with_reducible refine drop_L (by first | assumption | omega | (simp only [*, List.length_set]; done)) ?_
    | with_reducible refine let_L ?_
    | with_reducible refine some_L ?_
    | with_reducible refine letT_L ?_
    | with_reducible refine ite_I (by omega) (fun _ => ?_) (fun _ => ?_)
    | rfl
    | simp only [Bool.decide_eq_true]
    | exact Lo.refl _
    | (refine Lo.eq ?_; simp only [Bool.decide_eq_true]; done)
    | refine ite_L (fun _ => ?_) (fun _ => ?_)
theorem d16 : Sound Try.prog ⟨16, true, Q16⟩ := sound_of ⟨_, Try.func16, by kernel_rfl, by kernel_rfl⟩ fun k args hp Z K z h => by
  unfold Q16 at h
  split at h
  · obtain ⟨r, hr, hK⟩ := Option.bind_eq_some_iff.1 h
    exact ⟨_, hK, g16 k _ _ _ _ _ _ _ r hr⟩
  · cases h
def o28 (r : Int × List Int) : Out Rw := ⟨[.c (.sc (.i .i64 r.1))], [.rows 1 (.eI r.2)]⟩
def Q28 : Mean Rw := fun k a h Z K => match a, h with
  | [.w (.c (.rw 0)), .w (.c (.sc (.i .i64 a1)))], [.rows 1 (.eI l0)] => (laws_markIntS.f k l0 a1).bind fun r => K (o28 r)
  | _, _ => none
def O28 : List (Cal Rw) := []
theorem O28_ok : ∀ c ∈ O28, Sound Try.prog c := by
  intro c hc
  simp only [O28, List.mem_cons, List.not_mem_nil, or_false] at hc
def C28_0 : Nat → St Rw → Option (Out Rw) := fun k st => match st with
  | ⟨19, 1, 1, [(0, .w (.c (.rw 0))), (1, .w (.c (.sc (.i .i64 x1)))), (5, .w (.c (.sc (.i .i64 x5))))], [(0, .rows 1 (.eI l0))]⟩ => (laws_markIntS.l0 k l0 x1 x5).bind fun r => some (o28 r)
  | _ => none
def K28 : List (Cut Rw) := [⟨[false, true, false, true], [0, 1, 5], C28_0⟩]
theorem e28_0 (k : Nat) (x1 : Int) (x5 : Int) (l0 : List Int) : Lo (seg Try.prog O28 K28 k (body Try.f28) (kEnd Try.prog Try.f28.results.toList) [false, true, false, true] ⟨19, 1, 1, [(0, .w (.c (.rw 0))), (1, .w (.c (.sc (.i .i64 x1)))), (5, .w (.c (.sc (.i .i64 x5))))], [(0, .rows 1 (.eI l0))]⟩) ((laws_markIntS.l0 (k + 1) l0 x1 x5).bind fun r => some (o28 r)) :=
  Lo.of (b := (if x5 < (l0.length : Int) then (if 0 ≤ x5 then (if x5 < (l0.length : Int) then ((some (l0.set x5.toNat x1)).bind fun y4 => ((laws_markIntS.l0 k y4 (RowKit.wrap64 (x1 + 1)) (RowKit.wrap64 (x5 + 1))).bind fun r => some (o28 r))) else none) else none) else (some (o28 (x1, l0))))) (by kernel_rfl) (by
    rw [laws_markIntS.l0]
    repeat' first
    | with_reducible exact none_L
    | with_reducible refine letB_L (fun _ _ => ?_)
    | with_reducible refine bind_L (fun _ => ?_)
    | with_reducible refine ite_L (fun _ => ?_) (fun _ => ?_)
    | with_reducible refine drop_L (by first | assumption | omega | (simp only [*, List.length_set]; done)) ?_
    | with_reducible refine let_L ?_
    | with_reducible refine some_L ?_
    | with_reducible refine letT_L ?_
    | with_reducible refine ite_I (by omega) (fun _ => ?_) (fun _ => ?_)
    | rfl
    | simp only [Bool.decide_eq_true]
    | exact Lo.refl _
    | (refine Lo.eq ?_; simp only [Bool.decide_eq_true]; done)
    | refine ite_L (fun _ => ?_) (fun _ => ?_))
theorem h28_0 (k : Nat) (st : St Rw) (out : Out Rw) (h : C28_0 (k + 1) st = some out) : seg Try.prog O28 K28 k (body Try.f28) (kEnd Try.prog Try.f28.results.toList) [false, true, false, true] st = some out := by
  unfold C28_0 at h
  split at h
  · exact e28_0 _ _ _ _ out h
  · cases h
theorem z28_ok : ∀ c ∈ K28, ∀ st, c.f 0 st = none := by
  intro c hc st
  simp only [K28, List.mem_cons, List.not_mem_nil, or_false] at hc
  rcases hc with rfl
  · show C28_0 0 st = none; unfold C28_0; split <;> rfl
theorem h28_ok : ∀ c ∈ K28, ∀ k st out, c.f (k + 1) st = some out → seg Try.prog O28 K28 k (body Try.f28) (kEnd Try.prog Try.f28.results.toList) c.p st = some out := by
  intro c hc k st out h
  simp only [K28, List.mem_cons, List.not_mem_nil, or_false] at hc
  rcases hc with rfl
  · exact h28_0 k st out h
theorem g28 (k : Nat) (l0 : List Int) (a1 : Int) (r : Int × List Int) (h : laws_markIntS.f k l0 a1 = some r) : Good Try.prog 28 [.w (.c (.rw 0)), .w (.c (.sc (.i .i64 a1)))] [.rows 1 (.eI l0)] (o28 r) := by
  refine fn_ok (k := k) O28_ok mixed Try.func28 (root := body Try.f28) (by kernel_rfl) z28_ok h28_ok ?_
  refine Lo.of (b := ((laws_markIntS.l0 k l0 a1 0).bind fun r => some (o28 r))) (c := (laws_markIntS.f k l0 a1).bind fun r => some (o28 r)) (by kernel_rfl) ?_ _ (by rw [h]; rfl)
  · unfold laws_markIntS.f
    repeat' first
    | with_reducible exact none_L
    | with_reducible refine letB_L (fun _ _ => ?_)
    | with_reducible refine bind_L (fun _ => ?_)
    | with_reducible refine ite_L (fun _ => ?_) (fun _ => ?_)
    | with_reducible refine drop_L (by first | assumption | omega | (simp only [*, List.length_set]; done)) ?_
    | with_reducible refine let_L ?_
    | with_reducible refine some_L ?_
    | with_reducible refine letT_L ?_
    | with_reducible refine ite_I (by omega) (fun _ => ?_) (fun _ => ?_)
    | rfl
    | simp only [Bool.decide_eq_true]
    | exact Lo.refl _
    | (refine Lo.eq ?_; simp only [Bool.decide_eq_true]; done)
    | refine ite_L (fun _ => ?_) (fun _ => ?_)
theorem d28 : Sound Try.prog ⟨28, true, Q28⟩ := sound_of ⟨_, Try.func28, by kernel_rfl, by kernel_rfl⟩ fun k args hp Z K z h => by
  unfold Q28 at h
  split at h
  · obtain ⟨r, hr, hK⟩ := Option.bind_eq_some_iff.1 h
    exact ⟨_, hK, g28 k _ _ r hr⟩
  · cases h
def o29 (l0 : List Int) (r : Int) : Out Rw := ⟨[.c (.sc (.i .i64 r))], [.rows 0 (.eI l0)]⟩
def Q29 : Mean Rw := fun k a h Z K => match a, h with
  | [.w (.c (.rw 0)), .w (.c (.sc (.i .i64 a1)))], [.rows 0 (.eI l0)] => (laws_heldIntS.f k l0 a1).bind fun r => K (o29 l0 r)
  | _, _ => none
def O29 : List (Cal Rw) := []
theorem O29_ok : ∀ c ∈ O29, Sound Try.prog c := by
  intro c hc
  simp only [O29, List.mem_cons, List.not_mem_nil, or_false] at hc
def C29_0 : Nat → St Rw → Option (Out Rw) := fun k st => match st with
  | ⟨21, 1, 1, [(0, .w (.c (.rw 0))), (1, .w (.c (.sc (.i .i64 x1)))), (5, .w (.c (.sc (.i .i64 x5))))], [(0, .rows 0 (.eI l0))]⟩ => (laws_heldIntS.l0 k l0 x1 x5).bind fun r => some (o29 l0 r)
  | _ => none
def K29 : List (Cut Rw) := [⟨[false, true, false, true], [0, 1, 5], C29_0⟩]
theorem e29_0 (k : Nat) (x1 : Int) (x5 : Int) (l0 : List Int) : Lo (seg Try.prog O29 K29 k (body Try.f29) (kEnd Try.prog Try.f29.results.toList) [false, true, false, true] ⟨21, 1, 1, [(0, .w (.c (.rw 0))), (1, .w (.c (.sc (.i .i64 x1)))), (5, .w (.c (.sc (.i .i64 x5))))], [(0, .rows 0 (.eI l0))]⟩) ((laws_heldIntS.l0 (k + 1) l0 x1 x5).bind fun r => some (o29 l0 r)) :=
  Lo.of (b := (if x5 < (l0.length : Int) then (if 0 ≤ x5 then (if x5 < (l0.length : Int) then (if l0.getD x5.toNat 0 = x1 then ((laws_heldIntS.l0 k l0 (RowKit.wrap64 (x1 + 1)) (RowKit.wrap64 (x5 + 1))).bind fun r => some (o29 l0 r)) else (some (o29 l0 (-1)))) else none) else none) else (some (o29 l0 x1)))) (by kernel_rfl) (by
    rw [laws_heldIntS.l0]
    repeat' first
    | with_reducible exact none_L
    | with_reducible refine letB_L (fun _ _ => ?_)
    | with_reducible refine bind_L (fun _ => ?_)
    | with_reducible refine ite_L (fun _ => ?_) (fun _ => ?_)
    | with_reducible refine drop_L (by first | assumption | omega | (simp only [*, List.length_set]; done)) ?_
    | with_reducible refine let_L ?_
    | with_reducible refine some_L ?_
    | with_reducible refine letT_L ?_
    | with_reducible refine ite_I (by omega) (fun _ => ?_) (fun _ => ?_)
    | rfl
    | simp only [Bool.decide_eq_true]
    | exact Lo.refl _
    | (refine Lo.eq ?_; simp only [Bool.decide_eq_true]; done)
    | refine ite_L (fun _ => ?_) (fun _ => ?_))
theorem h29_0 (k : Nat) (st : St Rw) (out : Out Rw) (h : C29_0 (k + 1) st = some out) : seg Try.prog O29 K29 k (body Try.f29) (kEnd Try.prog Try.f29.results.toList) [false, true, false, true] st = some out := by
  unfold C29_0 at h
  split at h
  · exact e29_0 _ _ _ _ out h
  · cases h
theorem z29_ok : ∀ c ∈ K29, ∀ st, c.f 0 st = none := by
  intro c hc st
  simp only [K29, List.mem_cons, List.not_mem_nil, or_false] at hc
  rcases hc with rfl
  · show C29_0 0 st = none; unfold C29_0; split <;> rfl
theorem h29_ok : ∀ c ∈ K29, ∀ k st out, c.f (k + 1) st = some out → seg Try.prog O29 K29 k (body Try.f29) (kEnd Try.prog Try.f29.results.toList) c.p st = some out := by
  intro c hc k st out h
  simp only [K29, List.mem_cons, List.not_mem_nil, or_false] at hc
  rcases hc with rfl
  · exact h29_0 k st out h
theorem g29 (k : Nat) (l0 : List Int) (a1 : Int) (r : Int) (h : laws_heldIntS.f k l0 a1 = some r) : Good Try.prog 29 [.w (.c (.rw 0)), .w (.c (.sc (.i .i64 a1)))] [.rows 0 (.eI l0)] (o29 l0 r) := by
  refine fn_ok (k := k) O29_ok mixed Try.func29 (root := body Try.f29) (by kernel_rfl) z29_ok h29_ok ?_
  refine Lo.of (b := ((laws_heldIntS.l0 k l0 a1 0).bind fun r => some (o29 l0 r))) (c := (laws_heldIntS.f k l0 a1).bind fun r => some (o29 l0 r)) (by kernel_rfl) ?_ _ (by rw [h]; rfl)
  · unfold laws_heldIntS.f
    repeat' first
    | with_reducible exact none_L
    | with_reducible refine letB_L (fun _ _ => ?_)
    | with_reducible refine bind_L (fun _ => ?_)
    | with_reducible refine ite_L (fun _ => ?_) (fun _ => ?_)
    | with_reducible refine drop_L (by first | assumption | omega | (simp only [*, List.length_set]; done)) ?_
    | with_reducible refine let_L ?_
    | with_reducible refine some_L ?_
    | with_reducible refine letT_L ?_
    | with_reducible refine ite_I (by omega) (fun _ => ?_) (fun _ => ?_)
    | rfl
    | simp only [Bool.decide_eq_true]
    | exact Lo.refl _
    | (refine Lo.eq ?_; simp only [Bool.decide_eq_true]; done)
    | refine ite_L (fun _ => ?_) (fun _ => ?_)
theorem d29 : Sound Try.prog ⟨29, false, Q29⟩ := sound_of ⟨_, Try.func29, by kernel_rfl, by kernel_rfl⟩ fun k args hp Z K z h => by
  unfold Q29 at h
  split at h
  · obtain ⟨r, hr, hK⟩ := Option.bind_eq_some_iff.1 h
    exact ⟨_, hK, g29 k _ _ r hr⟩
  · cases h
def o7 (l0_0 : List S106) (l0_1 : List S108) (l0_2 : List S110) (l0_3 : List S112) (l0_4 : List S64) (r : Bool) : Out Rw := ⟨[.c (.sc (.b r))], [.rows 0 (.e106 l0_0), .rows 0 (.e108 l0_1), .rows 0 (.e110 l0_2), .rows 0 (.e112 l0_3), .rows 0 (.e64 l0_4)]⟩
def O7 : List (Cal Rw) := [⟨18, false, Q18⟩, ⟨20, false, Q20⟩, ⟨25, false, Q25⟩, ⟨26, false, Q26⟩, ⟨27, false, Q27⟩, ⟨15, false, Q15⟩, ⟨16, true, Q16⟩, ⟨28, true, Q28⟩, ⟨29, false, Q29⟩]
theorem O7_ok : ∀ c ∈ O7, Sound Try.prog c := by
  intro c hc
  simp only [O7, List.mem_cons, List.not_mem_nil, or_false] at hc
  rcases hc with rfl | rfl | rfl | rfl | rfl | rfl | rfl | rfl | rfl
  · exact d18
  · exact d20
  · exact d25
  · exact d26
  · exact d27
  · exact d15
  · exact d16
  · exact d28
  · exact d29
def C7_0 : Nat → St Rw → Option (Out Rw) := fun k st => match st with
  | ⟨79, 5, 8, [(1, .w (.c (.sc (.i .i64 x1)))), (2, .w (.c (.sc (.i .i64 x2)))), (3, .pt 5 0), (8, .w (.c (.rw 6))), (10, .w (.c (.rw 7))), (50, .w (.c (.sc (.b x50))))], [(0, .rows 0 (.e106 l0_0)), (1, .rows 0 (.e108 l0_1)), (2, .rows 0 (.e110 l0_2)), (3, .rows 0 (.e112 l0_3)), (4, .rows 0 (.e64 l0_4)), (5, .box 44 [.rw 0, .rw 1, .rw 2, .rw 3, .rw 4, .sc (.i .i64 b5_5)]), (6, .rows 2 (.eI y6)), (7, .rows 2 (.eI y7))]⟩ => (laws_FnExactTradesOpen.j0 k x1 x2 y6 y7 x50 l0_0 l0_1 l0_2 l0_3 l0_4 b5_5).bind fun r => some (o7 l0_0 l0_1 l0_2 l0_3 l0_4 r)
  | _ => none
def K7 : List (Cut Rw) := [⟨[true, false, true, true, true, true, true, true, true, true, true, true, true], [1, 2, 3, 8, 10, 50], C7_0⟩]
theorem e7_0 (k : Nat) (x1 : Int) (x2 : Int) (x50 : Bool) (l0_0 : List S106) (l0_1 : List S108) (l0_2 : List S110) (l0_3 : List S112) (l0_4 : List S64) (b5_5 : Int) (y6 : List Int) (y7 : List Int) : Lo (seg Try.prog O7 K7 k (body Try.f7) (kEnd Try.prog Try.f7.results.toList) [true, false, true, true, true, true, true, true, true, true, true, true, true] ⟨79, 5, 8, [(1, .w (.c (.sc (.i .i64 x1)))), (2, .w (.c (.sc (.i .i64 x2)))), (3, .pt 5 0), (8, .w (.c (.rw 6))), (10, .w (.c (.rw 7))), (50, .w (.c (.sc (.b x50))))], [(0, .rows 0 (.e106 l0_0)), (1, .rows 0 (.e108 l0_1)), (2, .rows 0 (.e110 l0_2)), (3, .rows 0 (.e112 l0_3)), (4, .rows 0 (.e64 l0_4)), (5, .box 44 [.rw 0, .rw 1, .rw 2, .rw 3, .rw 4, .sc (.i .i64 b5_5)]), (6, .rows 2 (.eI y6)), (7, .rows 2 (.eI y7))]⟩) ((laws_FnExactTradesOpen.j0 (k + 1) x1 x2 y6 y7 x50 l0_0 l0_1 l0_2 l0_3 l0_4 b5_5).bind fun r => some (o7 l0_0 l0_1 l0_2 l0_3 l0_4 r)) :=
  Lo.of (b := (if x50 = true then (some (o7 l0_0 l0_1 l0_2 l0_3 l0_4 false)) else ((laws_markIntS.f k y7 1).bind fun r12 => ((laws_heldIntS.f k r12.2 1).bind fun r13 => (if r13 < 0 then (some (o7 l0_0 l0_1 l0_2 l0_3 l0_4 false)) else (if r13 = r12.1 then ((laws_toBooks.f k l0_0 l0_1 l0_2 l0_3 l0_4 b5_5).bind fun r14 => ((impl_TradesOpen.f k r14.1 r14.2.1 r14.2.2.1 r14.2.2.2.1 r14.2.2.2.2.1 r14.2.2.2.2.2 x1 x2).bind fun r15 => ((laws_eqIntS.f k r15 y6).bind fun r16 => (if r16 = true then ((laws_heldIntS.f k r12.2 1).bind fun r17 => (if r17 < 0 then (some (o7 l0_0 l0_1 l0_2 l0_3 l0_4 false)) else (if r17 = r12.1 then (some (o7 l0_0 l0_1 l0_2 l0_3 l0_4 true)) else (some (o7 l0_0 l0_1 l0_2 l0_3 l0_4 false))))) else (some (o7 l0_0 l0_1 l0_2 l0_3 l0_4 false)))))) else (some (o7 l0_0 l0_1 l0_2 l0_3 l0_4 false)))))))) (by kernel_rfl) (by
    rw [laws_FnExactTradesOpen.j0]
    repeat' first
    | with_reducible exact none_L
    | with_reducible refine letB_L (fun _ _ => ?_)
    | with_reducible refine bind_L (fun _ => ?_)
    | with_reducible refine ite_L (fun _ => ?_) (fun _ => ?_)
    | with_reducible refine drop_L (by first | assumption | omega | (simp only [*, List.length_set]; done)) ?_
    | with_reducible refine let_L ?_
    | with_reducible refine some_L ?_
    | with_reducible refine letT_L ?_
    | with_reducible refine ite_I (by omega) (fun _ => ?_) (fun _ => ?_)
    | rfl
    | simp only [Bool.decide_eq_true]
    | exact Lo.refl _
    | (refine Lo.eq ?_; simp only [Bool.decide_eq_true]; done)
    | refine ite_L (fun _ => ?_) (fun _ => ?_))
theorem h7_0 (k : Nat) (st : St Rw) (out : Out Rw) (h : C7_0 (k + 1) st = some out) : seg Try.prog O7 K7 k (body Try.f7) (kEnd Try.prog Try.f7.results.toList) [true, false, true, true, true, true, true, true, true, true, true, true, true] st = some out := by
  unfold C7_0 at h
  split at h
  · exact e7_0 _ _ _ _ _ _ _ _ _ _ _ _ out h
  · cases h
theorem z7_ok : ∀ c ∈ K7, ∀ st, c.f 0 st = none := by
  intro c hc st
  simp only [K7, List.mem_cons, List.not_mem_nil, or_false] at hc
  rcases hc with rfl
  · show C7_0 0 st = none; unfold C7_0; split <;> rfl
theorem h7_ok : ∀ c ∈ K7, ∀ k st out, c.f (k + 1) st = some out → seg Try.prog O7 K7 k (body Try.f7) (kEnd Try.prog Try.f7.results.toList) c.p st = some out := by
  intro c hc k st out h
  simp only [K7, List.mem_cons, List.not_mem_nil, or_false] at hc
  rcases hc with rfl
  · exact h7_0 k st out h
theorem g7 (k : Nat) (l0_0 : List (S106)) (l0_1 : List (S108)) (l0_2 : List (S110)) (l0_3 : List (S112)) (l0_4 : List (S64)) (a0_5 : Int) (a1 : Int) (a2 : Int) (r : Bool) (h : laws_FnExactTradesOpen.f k l0_0 l0_1 l0_2 l0_3 l0_4 a0_5 a1 a2 = some r) : Good Try.prog 7 [.w (.ag [.rw 0, .rw 1, .rw 2, .rw 3, .rw 4, .sc (.i .i64 a0_5)]), .w (.c (.sc (.i .i64 a1))), .w (.c (.sc (.i .i64 a2)))] [.rows 0 (.e106 l0_0), .rows 0 (.e108 l0_1), .rows 0 (.e110 l0_2), .rows 0 (.e112 l0_3), .rows 0 (.e64 l0_4)] (o7 l0_0 l0_1 l0_2 l0_3 l0_4 r) := by
  refine fn_ok (k := k) O7_ok mixed Try.func7 (root := body Try.f7) (by kernel_rfl) z7_ok h7_ok ?_
  refine Lo.of (b := ((laws_szBooks.f l0_0 l0_1 l0_2 l0_3 l0_4 a0_5 1048576).bind fun r9 => (if r9 < 0 then (some (o7 l0_0 l0_1 l0_2 l0_3 l0_4 true)) else ((laws_toBooks.f k l0_0 l0_1 l0_2 l0_3 l0_4 a0_5).bind fun r10 => ((spec_TradesOpen.f k r10.1 r10.2.1 r10.2.2.1 r10.2.2.2.1 r10.2.2.2.2.1 r10.2.2.2.2.2 a1 a2).bind fun r11 => ((laws_toBooks.f k l0_0 l0_1 l0_2 l0_3 l0_4 a0_5).bind fun r12 => ((impl_TradesOpen.f k r12.1 r12.2.1 r12.2.2.1 r12.2.2.2.1 r12.2.2.2.2.1 r12.2.2.2.2.2 a1 a2).bind fun r13 => ((laws_eqIntS.f k r13 r11).bind fun r14 => (if r14 = true then ((laws_toBooks.f k l0_0 l0_1 l0_2 l0_3 l0_4 a0_5).bind fun r15 => ((laws_eqBooks.f k r12.1 r12.2.1 r12.2.2.1 r12.2.2.2.1 r12.2.2.2.2.1 r12.2.2.2.2.2 r15.1 r15.2.1 r15.2.2.1 r15.2.2.2.1 r15.2.2.2.2.1 r15.2.2.2.2.2).bind fun r16 => (if r16 = true then ((laws_markBooks.f k r12.1 r12.2.1 r12.2.2.1 r12.2.2.2.1 r12.2.2.2.2.1 r12.2.2.2.2.2 1).bind fun r17 => (if r17.1 < 0 then ((laws_FnExactTradesOpen.j0 k a1 a2 r11 r13 true l0_0 l0_1 l0_2 l0_3 l0_4 a0_5).bind fun r => some (o7 l0_0 l0_1 l0_2 l0_3 l0_4 r)) else ((laws_eqIntS.f k r13 r11).bind fun r18 => ((laws_FnExactTradesOpen.j0 k a1 a2 r11 r13 (!decide (r18 = true)) l0_0 l0_1 l0_2 l0_3 l0_4 a0_5).bind fun r => some (o7 l0_0 l0_1 l0_2 l0_3 l0_4 r))))) else (some (o7 l0_0 l0_1 l0_2 l0_3 l0_4 false))))) else (some (o7 l0_0 l0_1 l0_2 l0_3 l0_4 false))))))))))) (c := (laws_FnExactTradesOpen.f k l0_0 l0_1 l0_2 l0_3 l0_4 a0_5 a1 a2).bind fun r => some (o7 l0_0 l0_1 l0_2 l0_3 l0_4 r)) (by kernel_rfl) ?_ _ (by rw [h]; rfl)
  · unfold laws_FnExactTradesOpen.f
    repeat' first
    | with_reducible exact none_L
    | with_reducible refine letB_L (fun _ _ => ?_)
    | with_reducible refine bind_L (fun _ => ?_)
    | with_reducible refine ite_L (fun _ => ?_) (fun _ => ?_)
    | with_reducible refine drop_L (by first | assumption | omega | (simp only [*, List.length_set]; done)) ?_
    | with_reducible refine let_L ?_
    | with_reducible refine some_L ?_
    | with_reducible refine letT_L ?_
    | with_reducible refine ite_I (by omega) (fun _ => ?_) (fun _ => ?_)
    | rfl
    | simp only [Bool.decide_eq_true]
    | exact Lo.refl _
    | (refine Lo.eq ?_; simp only [Bool.decide_eq_true]; done)
    | refine ite_L (fun _ => ?_) (fun _ => ?_)
end Go.Proofs.Ytmfgajbkcnlkcaa.AI
namespace Go.Proofs.Ytmfgajbkcnlkcaa.AI
open Go Go.RowKit Go.Proofs.YtmfgajbkcnlkcaaW.PrintWords Go.Proofs.Ytmfgajbkcnlkcaa.P
set_option linter.unusedVariables false
set_option linter.all false
set_option maxRecDepth 100000
theorem root7_ok (k : Nat) (A0_0 : Option Addr) (c0_0 : Nat) (l0_0 : List (S106)) (A0_1 : Option Addr) (c0_1 : Nat) (l0_1 : List (S108)) (A0_2 : Option Addr) (c0_2 : Nat) (l0_2 : List (S110)) (A0_3 : Option Addr) (c0_3 : Nat) (l0_3 : List (S112)) (A0_4 : Option Addr) (c0_4 : Nat) (l0_4 : List (S64)) (a0_5 : Int) (a1 : Int) (a2 : Int) (r : Bool) (w : World) (hr0_0 : Kd.C k106 w A0_0 l0_0.length l0_0) (hc0_0 : l0_0.length ≤ c0_0) (hr0_1 : Kd.C k108 w A0_1 l0_1.length l0_1) (hc0_1 : l0_1.length ≤ c0_1) (hr0_2 : Kd.C k110 w A0_2 l0_2.length l0_2) (hc0_2 : l0_2.length ≤ c0_2) (hr0_3 : Kd.C k112 w A0_3 l0_3.length l0_3) (hc0_3 : l0_3.length ≤ c0_3) (hr0_4 : Kd.C k64 w A0_4 l0_4.length l0_4) (hc0_4 : l0_4.length ≤ c0_4) (h : laws_FnExactTradesOpen.f k l0_0 l0_1 l0_2 l0_3 l0_4 a0_5 a1 a2 = some r) :
    Calls Try.prog 7 #[.agg #[.slice A0_0 l0_0.length c0_0, .slice A0_1 l0_1.length c0_1, .slice A0_2 l0_2.length c0_2, .slice A0_3 l0_3.length c0_3, .slice A0_4 l0_4.length c0_4, .int .i64 a0_5], .int .i64 a1, .int .i64 a2] w fun e w' => e = .returned (.bool r) ∧ Below w.heap.size w w' := by
  let G : Nat → Value := fun i => match i with
    | 0 => .slice A0_0 l0_0.length c0_0
    | 1 => .slice A0_1 l0_1.length c0_1
    | 2 => .slice A0_2 l0_2.length c0_2
    | 3 => .slice A0_3 l0_3.length c0_3
    | 4 => .slice A0_4 l0_4.length c0_4
    | _ => undef
  have hA : ArgsOK (R := Rw) Try.prog w G [.w (.ag [.rw 0, .rw 1, .rw 2, .rw 3, .rw 4, .sc (.i .i64 a0_5)]), .w (.c (.sc (.i .i64 a1))), .w (.c (.sc (.i .i64 a2)))] [.rows 0 (.e106 l0_0), .rows 0 (.e108 l0_1), .rows 0 (.e110 l0_2), .rows 0 (.e112 l0_3), .rows 0 (.e64 l0_4)] := args_ro (by simp [isRo]) (by simp [idsV, idsW, idsC, EpOK]) fun i b hb => by
    match i, hb with
    | 0, hb => obtain rfl := Option.some.inj hb; exact ro106.2 ⟨_, _, rfl, hc0_0, hr0_0⟩
    | 1, hb => obtain rfl := Option.some.inj hb; exact ro108.2 ⟨_, _, rfl, hc0_1, hr0_1⟩
    | 2, hb => obtain rfl := Option.some.inj hb; exact ro110.2 ⟨_, _, rfl, hc0_2, hr0_2⟩
    | 3, hb => obtain rfl := Option.some.inj hb; exact ro112.2 ⟨_, _, rfl, hc0_3, hr0_3⟩
    | 4, hb => obtain rfl := Option.some.inj hb; exact ro64.2 ⟨_, _, rfl, hc0_4, hr0_4⟩
    | _ + 5, hb => simp at hb
  have hq := calls_ro (by simp [isRo]) (by simp [o7, idsW, idsC]) (g7 k l0_0 l0_1 l0_2 l0_3 l0_4 a0_5 a1 a2 r h) hA
  have hv : (List.map (concV G) [.w (.ag [.rw 0, .rw 1, .rw 2, .rw 3, .rw 4, .sc (.i .i64 a0_5)]), .w (.c (.sc (.i .i64 a1))), .w (.c (.sc (.i .i64 a2)))]).toArray = #[.agg #[.slice A0_0 l0_0.length c0_0, .slice A0_1 l0_1.length c0_1, .slice A0_2 l0_2.length c0_2, .slice A0_3 l0_3.length c0_3, .slice A0_4 l0_4.length c0_4, .int .i64 a0_5], .int .i64 a1, .int .i64 a2] := by simp [concV, concW, conc, Sc.v, G]
  rw [hv] at hq
  exact hq
end Go.Proofs.Ytmfgajbkcnlkcaa.AI
namespace Go.Proofs.Ytmfgajbkcnlkcaa.EV
open Go Go.RowKit Go.Proofs.YtmfgajbkcnlkcaaW.PrintWords
theorem w64_in (n : Int) (h0 : -9223372036854775808 ≤ n) (h1 : n ≤ 9223372036854775807) : wrap64 n = n := by unfold wrap64; omega
theorem w_succ {i n : Nat} (h : i < n) (hn : n ≤ 9223372036854775807) : wrap64 ((i : Int) + 1) = ((i + 1 : Nat) : Int) := by unfold wrap64; omega
theorem w_pred {i n : Nat} (h : i < n) (hp : 0 < i) (hn : n ≤ 9223372036854775807) : wrap64 ((i : Int) - 1) = ((i - 1 : Nat) : Int) := by unfold wrap64; omega
theorem Ev_one {α : Type} {g : Nat → Option α} {r : α} (h : ∀ k, g (k + 1) = some r) : Ev g r := ⟨1, fun k hk => by
  obtain ⟨k, rfl⟩ : ∃ m, k = m + 1 := ⟨k - 1, by omega⟩
  exact h k⟩
theorem Ev_all_k {α : Type} {g : Nat → Option α} {r : α} (h : ∀ k, g k = some r) : Ev g r := ⟨0, fun k _ => h k⟩
theorem Ev_bind {α β : Type} {g : Nat → Option α} {f : Nat → α → Option β} {a : α} {r : β} (h : Ev g a) (k : Ev (fun n => f n a) r) : Ev (fun n => (g n).bind (f n)) r := Ev.bind h k
theorem Ev_asks (l : Nat → Int → Option Bool) (n : Nat) (G : Nat → Prop) (fin : Bool) (h0 : Ev (fun k => l k (n : Int)) fin)
    (hs : ∀ i : Nat, i < n → (G i ∧ ∀ k, l (k + 1) (i : Int) = l k ((i + 1 : Nat) : Int)) ∨ (¬ G i ∧ ∀ k, l (k + 1) (i : Int) = some false)) :
    ∀ (d i : Nat), n - i = d → i ≤ n → ∃ r, Ev (fun k => l k (i : Int)) r ∧ (r = true ↔ (∀ j, i ≤ j → j < n → G j) ∧ fin = true) := by
  intro d
  induction d with
  | zero =>
    intro i hd hi
    obtain rfl : i = n := by omega
    exact ⟨fin, h0, ⟨fun h => ⟨fun j h1 h2 => by omega, h⟩, fun h => h.2⟩⟩
  | succ d ih =>
    intro i hd hi
    rcases hs i (by omega) with ⟨hg, he⟩ | ⟨hg, he⟩
    · obtain ⟨r, hr, hiff⟩ := ih (i + 1) (by omega) (by omega)
      refine ⟨r, Ev.step he hr, ?_⟩
      rw [hiff]
      constructor
      · rintro ⟨h1, h2⟩
        refine ⟨fun j h3 h4 => ?_, h2⟩
        rcases Nat.eq_or_lt_of_le h3 with h5 | h5
        · exact h5 ▸ hg
        · exact h1 j h5 h4
      · rintro ⟨h1, h2⟩
        exact ⟨fun j h3 h4 => h1 j (by omega) h4, h2⟩
    · refine ⟨false, Ev_one he, ⟨fun h => Bool.noConfusion h, fun h => absurd (h.1 i (Nat.le_refl _) (by omega)) hg⟩⟩
theorem Ev_goes {σ ρ : Type} (l : Nat → σ → Int → Option ρ) (n : Nat) (F : Nat → σ → ρ) (Inv : Nat → σ → Prop)
    (h0 : ∀ s, Inv n s → Ev (fun k => l k s (n : Int)) (F n s))
    (hs : ∀ (i : Nat) s, i < n → Inv i s → (Ev (fun k => l k s (i : Int)) (F i s)) ∨ ∃ s', Inv (i + 1) s' ∧ F (i + 1) s' = F i s ∧ ∀ k, l (k + 1) s (i : Int) = l k s' ((i + 1 : Nat) : Int)) :
    ∀ (d i : Nat) s, n - i = d → i ≤ n → Inv i s → Ev (fun k => l k s (i : Int)) (F i s) := by
  intro d
  induction d with
  | zero =>
    intro i s hd hi hinv
    obtain rfl : i = n := by omega
    exact h0 s hinv
  | succ d ih =>
    intro i s hd hi hinv
    rcases hs i s (by omega) hinv with h | ⟨s', h1, h2, h3⟩
    · exact h
    · exact h2 ▸ Ev.step h3 (ih (i + 1) s' (by omega) (by omega) h1)
theorem Ev_goes' {σ ρ : Type} (l : Nat → σ → Int → Option ρ) (n : Nat) (F : Nat → σ → ρ) (Inv : Nat → σ → Prop)
    (h0 : ∀ s, Inv n s → Ev (fun k => l k s (n : Int)) (F n s))
    (hs : ∀ (i : Nat) s, i < n → Inv i s → (Ev (fun k => l k s (i : Int)) (F i s)) ∨ ∃ s', Inv (i + 1) s' ∧ F (i + 1) s' = F i s ∧ ∀ r, Ev (fun k => l k s' ((i + 1 : Nat) : Int)) r → Ev (fun k => l k s (i : Int)) r) :
    ∀ (d i : Nat) s, n - i = d → i ≤ n → Inv i s → Ev (fun k => l k s (i : Int)) (F i s) := by
  intro d
  induction d with
  | zero =>
    intro i s hd hi hinv
    obtain rfl : i = n := by omega
    exact h0 s hinv
  | succ d ih =>
    intro i s hd hi hinv
    rcases hs i s (by omega) hinv with h | ⟨s', h1, h2, h3⟩
    · exact h
    · exact h2 ▸ h3 _ (ih (i + 1) s' (by omega) (by omega) h1)
theorem Ev_asks' (l : Nat → Int → Option Bool) (n : Nat) (G : Nat → Prop) (fin : Bool) (h0 : Ev (fun k => l k (n : Int)) fin)
    (hs : ∀ i : Nat, i < n → (G i ∧ ∀ r, Ev (fun k => l k ((i + 1 : Nat) : Int)) r → Ev (fun k => l k (i : Int)) r) ∨ (¬ G i ∧ Ev (fun k => l k (i : Int)) false)) :
    ∀ (d i : Nat), n - i = d → i ≤ n → ∃ r, Ev (fun k => l k (i : Int)) r ∧ (r = true ↔ (∀ j, i ≤ j → j < n → G j) ∧ fin = true) := by
  intro d
  induction d with
  | zero =>
    intro i hd hi
    obtain rfl : i = n := by omega
    exact ⟨fin, h0, ⟨fun h => ⟨fun j h1 h2 => by omega, h⟩, fun h => h.2⟩⟩
  | succ d ih =>
    intro i hd hi
    rcases hs i (by omega) with ⟨hg, he⟩ | ⟨hg, he⟩
    · obtain ⟨r, hr, hiff⟩ := ih (i + 1) (by omega) (by omega)
      refine ⟨r, he r hr, ?_⟩
      rw [hiff]
      constructor
      · rintro ⟨h1, h2⟩
        refine ⟨fun j h3 h4 => ?_, h2⟩
        rcases Nat.eq_or_lt_of_le h3 with h5 | h5
        · exact h5 ▸ hg
        · exact h1 j h5 h4
      · rintro ⟨h1, h2⟩
        exact ⟨fun j h3 h4 => h1 j (by omega) h4, h2⟩
    · exact ⟨false, he, ⟨fun h => Bool.noConfusion h, fun h => absurd (h.1 i (Nat.le_refl _) (by omega)) hg⟩⟩
theorem drop_getD {α : Type} (z : α) (l : List α) (i : Nat) (h : i < l.length) : l.drop i = l.getD i z :: l.drop (i + 1) := by
  rw [List.drop_eq_getElem_cons h, List.getD_eq_getElem?_getD, List.getElem?_eq_getElem h]
  rfl
theorem getD_set {α : Type} (l : List α) (i j : Nat) (x z : α) : (l.set i x).getD j z = if i = j ∧ j < l.length then x else l.getD j z := by
  rw [List.getD_eq_getElem?_getD, List.getElem?_set, List.getD_eq_getElem?_getD]
  by_cases h : i = j
  · subst h
    by_cases h2 : i < l.length
    · simp [h2]
    · simp [h2]
  · simp [h]
theorem ext_getD {α : Type} (z : α) {a b : List α} (hl : a.length = b.length) (h : ∀ i, i < a.length → a.getD i z = b.getD i z) : a = b := by
  apply List.ext_getElem hl
  intro i h1 h2
  have := h i h1
  rw [List.getD_eq_getElem?_getD, List.getD_eq_getElem?_getD, List.getElem?_eq_getElem h1, List.getElem?_eq_getElem h2] at this
  simpa using this
end Go.Proofs.Ytmfgajbkcnlkcaa.EV
namespace Go.Proofs.Ytmfgajbkcnlkcaa.I1
open Go Go.RowKit Go.Proofs.Ytmfgajbkcnlkcaa.P Go.Proofs.YtmfgajbkcnlkcaaW.PrintWords Go.Proofs.YtmfgajbkcnlkcaaW.PrintLast
theorem in_i (a lo hi : Int) : impl_in.f a lo hi = some (decide (lo ≤ a ∧ a ≤ hi)) := by
  unfold impl_in.f
  by_cases h : a ≥ lo
  · rw [if_pos h]
    congr 1
    rw [Bool.eq_iff_iff, decide_eq_true_iff, decide_eq_true_iff]
    omega
  · rw [if_neg h]
    congr 1
    symm
    rw [decide_eq_false_iff_not]
    omega
theorem in_s (a lo hi : Int) : spec_l1In.f a lo hi = some (decide (lo ≤ a ∧ a ≤ hi)) := by
  unfold spec_l1In.f
  by_cases h : a ≥ lo
  · rw [if_pos h]
    congr 1
    rw [Bool.eq_iff_iff, decide_eq_true_iff, decide_eq_true_iff]
    omega
  · rw [if_neg h]
    congr 1
    symm
    rw [decide_eq_false_iff_not]
    omega
end Go.Proofs.Ytmfgajbkcnlkcaa.I1
namespace Go.Proofs.Ytmfgajbkcnlkcaa.F1
open Go Go.RowKit Go.Proofs.Ytmfgajbkcnlkcaa.P Go.Proofs.YtmfgajbkcnlkcaaW.PrintWords Go.Proofs.YtmfgajbkcnlkcaaW.PrintLast Go.Proofs.Ytmfgajbkcnlkcaa.EV Go.Proofs.Ytmfgajbkcnlkcaa.I1
abbrev ST := S50
def No (a : Int) : Prop := 1 ≤ a ∧ a ≤ 1000
instance (a : Int) : Decidable (No a) := by unfold No; exact inferInstance
theorem no_s (a : Int) : spec_l3No.f a = some (decide (No a)) := by unfold spec_l3No.f; rw [in_s]; rfl
theorem no_i (a : Int) : impl_isNo.f a = some (decide (No a)) := by unfold impl_isNo.f; rw [in_i]; rfl
theorem rdT (l : List ST) (i : Nat) : rd_T50 l (i : Int) = l.getD i z50 := by unfold rd_T50; rw [Int.toNat_natCast]
def Amt1 (lo x : Int) : Prop := lo ≤ x ∧ x ≤ 1000000000000000
def Sta (x : Int) : Prop := 1 ≤ x ∧ x ≤ 3
instance (a lo : Int) : Decidable (Amt1 lo a) := by unfold Amt1; exact inferInstance
instance (a : Int) : Decidable (Sta a) := by unfold Sta; exact inferInstance
def Good (l : List ST) (i : Nat) : Prop :=
  No (l.getD i z50).f0 ∧ No (l.getD i z50).f1 ∧ No (l.getD i z50).f2 ∧ No (l.getD i z50).f3 ∧ No (l.getD i z50).f5 ∧ (l.getD i z50).f1 ≠ (l.getD i z50).f2 ∧
    Amt1 1 (l.getD i z50).f4 ∧ Amt1 0 (l.getD i z50).f6 ∧ Sta (l.getD i z50).f7 ∧ (0 < i → (l.getD (i - 1) z50).f0 < (l.getD i z50).f0)
theorem some_s (a lo : Int) : spec_l1Some.f a lo = some (decide (lo ≤ a ∧ a ≤ 1000000000000000)) := by
  unfold spec_l1Some.f
  first | (rw [in_s]; rfl) | (rw [in_s])
theorem amt_in (a lo : Int) : impl_in.f a lo 1000000000000000 = some (decide (Amt1 lo a)) := by rw [in_i]; rfl
theorem sta_in (a : Int) : impl_in.f a 1 3 = some (decide (Sta a)) := by rw [in_i]; rfl
theorem trades_s (l : List ST) (hl : l.length ≤ 9223372036854775807) : ∃ r, Ev (fun k => spec_TradesOk.f k l) r ∧ (r = true ↔ l.length ≤ 30 ∧ ∀ i, i < l.length → Good l i) := by
  unfold spec_TradesOk.f
  by_cases hn : (l.length : Int) > 30
  · exact ⟨false, Ev_all_k fun k => if_pos hn, ⟨fun h => Bool.noConfusion h, fun h => absurd h.1 (by omega)⟩⟩
  · obtain ⟨r, hr, hiff⟩ := Ev_asks (fun k i => spec_TradesOk.l0 k l i) l.length (Good l) true
      (Ev_one fun k => by simp only [spec_TradesOk.l0]; rw [if_neg (by omega)])
      (fun i hi => by
        obtain ⟨x, hx⟩ : ∃ x, l.getD i z50 = x := ⟨_, rfl⟩
        have e : ∀ k, spec_TradesOk.l0 (k + 1) l (i : Int) = if No x.f0 then (if No x.f1 then (if No x.f2 then (if No x.f3 then (if No x.f5 then (if x.f1 = x.f2 then some false else (if Amt1 1 x.f4 then (if Amt1 0 x.f6 then (if Sta x.f7 then (if (i : Int) > 0 then (if 0 ≤ wrap64 ((i : Int) - 1) then (if wrap64 ((i : Int) - 1) < (l.length : Int) then (if (rd_T50 l (wrap64 ((i : Int) - 1))).f0 ≥ x.f0 then some false else spec_TradesOk.l0 k l ((i + 1 : Nat) : Int)) else none) else none) else spec_TradesOk.l0 k l ((i + 1 : Nat) : Int)) else some false) else some false) else some false)) else some false) else some false) else some false) else some false) else some false := fun k => by
          simp only [spec_TradesOk.l0]
          rw [if_pos (by omega), if_pos (by omega), w_succ hi (by omega)]
          simp only [rdT, hx, no_s, some_s, in_s, Option.bind_some, decide_eq_true_iff]
          rfl
        unfold Good
        rw [hx]
        by_cases h0 : No x.f0
        · by_cases h1 : No x.f1
          · by_cases h2 : No x.f2
            · by_cases h3 : No x.f3
              · by_cases h5 : No x.f5
                · by_cases hne : x.f1 = x.f2
                  · exact .inr ⟨fun g => g.2.2.2.2.2.1 hne, fun k => by rw [e, if_pos h0, if_pos h1, if_pos h2, if_pos h3, if_pos h5, if_pos hne]⟩
                  · by_cases h4 : Amt1 1 x.f4
                    · by_cases h6 : Amt1 0 x.f6
                      · by_cases h7 : Sta x.f7
                        · by_cases hi0 : 0 < i
                          · by_cases hlt : (l.getD (i - 1) z50).f0 < x.f0
                            · refine .inl ⟨⟨h0, h1, h2, h3, h5, hne, h4, h6, h7, fun _ => hlt⟩, fun k => ?_⟩
                              show spec_TradesOk.l0 (k + 1) l (i : Int) = _
                              rw [e, if_pos h0, if_pos h1, if_pos h2, if_pos h3, if_pos h5, if_neg hne, if_pos h4, if_pos h6, if_pos h7, if_pos (by omega), w_pred hi hi0 (by omega), if_pos (by omega), if_pos (by omega), rdT, if_neg (by omega)]
                            · refine .inr ⟨fun g => hlt (g.2.2.2.2.2.2.2.2.2 hi0), fun k => ?_⟩
                              rw [e, if_pos h0, if_pos h1, if_pos h2, if_pos h3, if_pos h5, if_neg hne, if_pos h4, if_pos h6, if_pos h7, if_pos (by omega), w_pred hi hi0 (by omega), if_pos (by omega), if_pos (by omega), rdT, if_pos (by omega)]
                          · refine .inl ⟨⟨h0, h1, h2, h3, h5, hne, h4, h6, h7, fun g => absurd g hi0⟩, fun k => ?_⟩
                            show spec_TradesOk.l0 (k + 1) l (i : Int) = _
                            rw [e, if_pos h0, if_pos h1, if_pos h2, if_pos h3, if_pos h5, if_neg hne, if_pos h4, if_pos h6, if_pos h7, if_neg (by omega)]
                        · exact .inr ⟨fun g => h7 g.2.2.2.2.2.2.2.2.1, fun k => by rw [e, if_pos h0, if_pos h1, if_pos h2, if_pos h3, if_pos h5, if_neg hne, if_pos h4, if_pos h6, if_neg h7]⟩
                      · exact .inr ⟨fun g => h6 g.2.2.2.2.2.2.2.1, fun k => by rw [e, if_pos h0, if_pos h1, if_pos h2, if_pos h3, if_pos h5, if_neg hne, if_pos h4, if_neg h6]⟩
                    · exact .inr ⟨fun g => h4 g.2.2.2.2.2.2.1, fun k => by rw [e, if_pos h0, if_pos h1, if_pos h2, if_pos h3, if_pos h5, if_neg hne, if_neg h4]⟩
                · exact .inr ⟨fun g => h5 g.2.2.2.2.1, fun k => by rw [e, if_pos h0, if_pos h1, if_pos h2, if_pos h3, if_neg h5]⟩
              · exact .inr ⟨fun g => h3 g.2.2.2.1, fun k => by rw [e, if_pos h0, if_pos h1, if_pos h2, if_neg h3]⟩
            · exact .inr ⟨fun g => h2 g.2.2.1, fun k => by rw [e, if_pos h0, if_pos h1, if_neg h2]⟩
          · exact .inr ⟨fun g => h1 g.2.1, fun k => by rw [e, if_pos h0, if_neg h1]⟩
        · exact .inr ⟨fun g => h0 g.1, fun k => by rw [e, if_neg h0]⟩) l.length 0 (by omega) (by omega)
    refine ⟨r, Ev.congr (fun k => if_neg hn) hr, ?_⟩
    rw [hiff]
    exact ⟨fun h => ⟨by omega, fun i hi => h.1 i (Nat.zero_le _) hi⟩, fun h => ⟨fun i _ hi => h.2 i hi, rfl⟩⟩
theorem trades_i (l : List ST) (hl : l.length ≤ 9223372036854775807) : ∃ r, Ev (fun k => impl_TradesOk.f k l) r ∧ (r = true ↔ l.length ≤ 30 ∧ ∀ i, i < l.length → Good l i) := by
  unfold impl_TradesOk.f
  obtain ⟨r, hr, hiff⟩ := Ev_asks' (fun k i => impl_TradesOk.l0 k l l (l.length : Int) i) l.length (Good l) (decide ((l.length : Int) ≤ 30))
    (Ev_one fun k => by simp only [impl_TradesOk.l0]; rw [if_neg (by omega)])
    (fun i hi => by
      obtain ⟨x, hx⟩ : ∃ x, l.getD i z50 = x := ⟨_, rfl⟩
      have e : ∀ k, impl_TradesOk.l0 (k + 1) l l (l.length : Int) (i : Int) = impl_TradesOk.j1 k l (i : Int) l (l.length : Int) (i : Int) (!decide (No x.f0 ∧ No x.f1 ∧ No x.f2 ∧ No x.f3 ∧ No x.f5 ∧ x.f1 ≠ x.f2)) x.f0 x.f1 x.f2 x.f3 x.f4 x.f5 x.f6 x.f7 := fun k => by
        simp only [impl_TradesOk.l0]
        rw [if_pos (by omega), if_pos (by omega), if_pos (by omega)]
        simp only [rdT, hx, no_i, Option.bind_some, decide_eq_true_iff]
        by_cases h0 : No x.f0
        · by_cases h1 : No x.f1
          · by_cases h2 : No x.f2
            · by_cases h3 : No x.f3
              · by_cases h5 : No x.f5
                · by_cases hne : x.f1 = x.f2
                  · rw [if_pos h0, if_pos h1, if_pos h2, if_pos h3, if_pos h5, decide_eq_false (fun g : No x.f0 ∧ No x.f1 ∧ No x.f2 ∧ No x.f3 ∧ No x.f5 ∧ x.f1 ≠ x.f2 => g.2.2.2.2.2 hne), beq_iff_eq.2 hne]
                    rfl
                  · rw [if_pos h0, if_pos h1, if_pos h2, if_pos h3, if_pos h5, decide_eq_true (show No x.f0 ∧ No x.f1 ∧ No x.f2 ∧ No x.f3 ∧ No x.f5 ∧ x.f1 ≠ x.f2 from ⟨h0, h1, h2, h3, h5, hne⟩), beq_eq_false_iff_ne.2 hne]
                    rfl
                · rw [if_pos h0, if_pos h1, if_pos h2, if_pos h3, if_neg h5, decide_eq_false (fun g : No x.f0 ∧ No x.f1 ∧ No x.f2 ∧ No x.f3 ∧ No x.f5 ∧ x.f1 ≠ x.f2 => h5 g.2.2.2.2.1)]
                  rfl
              · rw [if_pos h0, if_pos h1, if_pos h2, if_neg h3, decide_eq_false (fun g : No x.f0 ∧ No x.f1 ∧ No x.f2 ∧ No x.f3 ∧ No x.f5 ∧ x.f1 ≠ x.f2 => h3 g.2.2.2.1)]
                rfl
            · rw [if_pos h0, if_pos h1, if_neg h2, decide_eq_false (fun g : No x.f0 ∧ No x.f1 ∧ No x.f2 ∧ No x.f3 ∧ No x.f5 ∧ x.f1 ≠ x.f2 => h2 g.2.2.1)]
              rfl
          · rw [if_pos h0, if_neg h1, decide_eq_false (fun g : No x.f0 ∧ No x.f1 ∧ No x.f2 ∧ No x.f3 ∧ No x.f5 ∧ x.f1 ≠ x.f2 => h1 g.2.1)]
            rfl
        · rw [if_neg h0, decide_eq_false (fun g : No x.f0 ∧ No x.f1 ∧ No x.f2 ∧ No x.f3 ∧ No x.f5 ∧ x.f1 ≠ x.f2 => h0 g.1)]
          rfl
      have e1 : ∀ k, impl_TradesOk.j1 (k + 1) l (i : Int) l (l.length : Int) (i : Int) false x.f0 x.f1 x.f2 x.f3 x.f4 x.f5 x.f6 x.f7 = if Amt1 1 x.f4 then (if Amt1 0 x.f6 then (if Sta x.f7 then (if (i : Int) > 0 then (if 0 ≤ wrap64 ((i : Int) - 1) then (if wrap64 ((i : Int) - 1) < (l.length : Int) then (if (rd_T50 l (wrap64 ((i : Int) - 1))).f0 ≥ x.f0 then some false else impl_TradesOk.l0 k l l (l.length : Int) ((i + 1 : Nat) : Int)) else none) else none) else impl_TradesOk.l0 k l l (l.length : Int) ((i + 1 : Nat) : Int)) else some false) else some false) else some false := fun k => by
        simp only [impl_TradesOk.j1]
        rw [if_neg (by decide), w_succ hi (by omega)]
        simp only [amt_in, sta_in, Option.bind_some, decide_eq_true_iff]
      unfold Good
      rw [hx]
      by_cases hA : No x.f0 ∧ No x.f1 ∧ No x.f2 ∧ No x.f3 ∧ No x.f5 ∧ x.f1 ≠ x.f2
      · rw [decide_eq_true hA] at e
        have stop : (∀ k, impl_TradesOk.j1 (k + 1) l (i : Int) l (l.length : Int) (i : Int) false x.f0 x.f1 x.f2 x.f3 x.f4 x.f5 x.f6 x.f7 = some false) → Ev (fun k => impl_TradesOk.l0 k l l (l.length : Int) (i : Int)) false := fun h => Ev.step e (Ev_one h)
        have go : (∀ k, impl_TradesOk.j1 (k + 1) l (i : Int) l (l.length : Int) (i : Int) false x.f0 x.f1 x.f2 x.f3 x.f4 x.f5 x.f6 x.f7 = impl_TradesOk.l0 k l l (l.length : Int) ((i + 1 : Nat) : Int)) → ∀ r, Ev (fun k => impl_TradesOk.l0 k l l (l.length : Int) ((i + 1 : Nat) : Int)) r → Ev (fun k => impl_TradesOk.l0 k l l (l.length : Int) (i : Int)) r := fun h r hr => Ev.step e (Ev.step h hr)
        obtain ⟨h0, h1, h2, h3, h5, hne⟩ := hA
        by_cases h4 : Amt1 1 x.f4
        · by_cases h6 : Amt1 0 x.f6
          · by_cases h7 : Sta x.f7
            · by_cases hi0 : 0 < i
              · by_cases hlt : (l.getD (i - 1) z50).f0 < x.f0
                · exact .inl ⟨⟨h0, h1, h2, h3, h5, hne, h4, h6, h7, fun _ => hlt⟩, go fun k => by rw [e1, if_pos h4, if_pos h6, if_pos h7, if_pos (by omega), w_pred hi hi0 (by omega), if_pos (by omega), if_pos (by omega), rdT, if_neg (by omega)]⟩
                · exact .inr ⟨fun g => hlt (g.2.2.2.2.2.2.2.2.2 hi0), stop fun k => by rw [e1, if_pos h4, if_pos h6, if_pos h7, if_pos (by omega), w_pred hi hi0 (by omega), if_pos (by omega), if_pos (by omega), rdT, if_pos (by omega)]⟩
              · exact .inl ⟨⟨h0, h1, h2, h3, h5, hne, h4, h6, h7, fun g => absurd g hi0⟩, go fun k => by rw [e1, if_pos h4, if_pos h6, if_pos h7, if_neg (by omega)]⟩
            · exact .inr ⟨fun g => h7 g.2.2.2.2.2.2.2.2.1, stop fun k => by rw [e1, if_pos h4, if_pos h6, if_neg h7]⟩
          · exact .inr ⟨fun g => h6 g.2.2.2.2.2.2.2.1, stop fun k => by rw [e1, if_pos h4, if_neg h6]⟩
        · exact .inr ⟨fun g => h4 g.2.2.2.2.2.2.1, stop fun k => by rw [e1, if_neg h4]⟩
      · rw [decide_eq_false hA] at e
        exact .inr ⟨fun g => hA ⟨g.1, g.2.1, g.2.2.1, g.2.2.2.1, g.2.2.2.2.1, g.2.2.2.2.2.1⟩, Ev.step e (Ev_one fun k => by
          show impl_TradesOk.j1 (k + 1) l (i : Int) l (l.length : Int) (i : Int) true x.f0 x.f1 x.f2 x.f3 x.f4 x.f5 x.f6 x.f7 = _
          simp only [impl_TradesOk.j1]
          rw [if_pos trivial])⟩) l.length 0 (by omega) (by omega)
  refine ⟨r, hr, ?_⟩
  rw [hiff, decide_eq_true_iff]
  exact ⟨fun h => ⟨by omega, fun i hi => h.1 i (Nat.zero_le _) hi⟩, fun h => ⟨fun i _ hi => h.2 i hi, by omega⟩⟩
theorem trades_both (l : List ST) (hl : l.length ≤ 9223372036854775807) : ∃ r, Ev (fun k => spec_TradesOk.f k l) r ∧ Ev (fun k => impl_TradesOk.f k l) r := by
  obtain ⟨r, hr, h1⟩ := trades_s l hl
  obtain ⟨s, hs, h2⟩ := trades_i l hl
  have e : r = s := by rw [Bool.eq_iff_iff, h1, h2]
  exact ⟨r, hr, by rw [e]; exact hs⟩
end Go.Proofs.Ytmfgajbkcnlkcaa.F1
namespace Go.Proofs.Ytmfgajbkcnlkcaa.T1
open Go Go.RowKit Go.Proofs.Ytmfgajbkcnlkcaa.P Go.Proofs.YtmfgajbkcnlkcaaW.PrintWords Go.Proofs.YtmfgajbkcnlkcaaW.PrintLast Go.Proofs.Ytmfgajbkcnlkcaa.EV
def cvAccount (x : S106) : S88 := ⟨x.f0, x.f1⟩
theorem sz_Account  (l : List S106) (left : Int) (h0 : 0 ≤ left) (h1 : left ≤ 1048576) (hm : l.length ≤ 9223372036854775807) : laws_szAccountS.f l left = some (if left < (l.length : Int) then -1 else left - l.length) := by
  unfold laws_szAccountS.f
  rw [w64_in _ (by omega) (by omega)]
  by_cases h : left < (l.length : Int)
  · rw [if_pos h, if_pos (by omega)]
  · rw [if_neg h, if_neg (by omega)]
theorem rd1_Account (l : List S106) (i : Nat) : rd_T106 l (i : Int) = l.getD i z106 := by unfold rd_T106; rw [Int.toNat_natCast]
theorem to_Account  (l : List S106) (hl : l.length ≤ 1048576) : Ev (fun k => laws_toAccountS.f k l) (l.map cvAccount) := by
  unfold laws_toAccountS.f
  have h := Ev_goes (fun k s i => laws_toAccountS.l0 k l s i) l.length (fun i s => s.take i ++ (l.drop i).map cvAccount) (fun i s => s.length = l.length)
    (fun s hs => Ev_one fun k => by
      simp only [laws_toAccountS.l0]
      rw [if_neg (by omega), List.drop_length, List.map_nil, List.append_nil, ← hs, List.take_length])
    (fun i s hi hs => .inr ⟨s.set i (cvAccount (l.getD i z106)), by rw [List.length_set]; exact hs, by
        rw [List.take_add_one, List.take_set_of_le (Nat.le_refl i), List.getElem?_set_self (by omega), List.drop_eq_getElem_cons hi, List.map_cons]
        have : l.getD i z106 = l[i] := by rw [List.getD_eq_getElem?_getD, List.getElem?_eq_getElem hi]; rfl
        rw [this]
        simp, fun k => by
        show laws_toAccountS.l0 (k + 1) l s (i : Int) = _
        simp only [laws_toAccountS.l0]
        rw [if_pos (by omega), if_pos (by omega), w_succ hi (by omega)]
        simp only [laws_toAccount.f, Option.bind_some, rd1_Account]
        rw [if_pos (by omega)]
        simp only [Int.toNat_natCast]
        rfl⟩) l.length 0 (List.replicate l.length z88) (by omega) (by omega) (by simp)
  refine Ev.congr (fun k => ?_) h
  rw [if_pos (by omega), if_pos (by omega)]
  rfl
theorem eq1_Account (x : S88) : laws_eqAccount.f x.f0 x.f1 x.f0 x.f1 = some true := by unfold laws_eqAccount.f; simp
theorem eq_Account (l : List S88) (hl : l.length ≤ 9223372036854775807) : Ev (fun k => laws_eqAccountS.f k l l) true := by
  unfold laws_eqAccountS.f
  obtain ⟨r, hr, hiff⟩ := Ev_asks (fun k i => laws_eqAccountS.l0 k l l i) l.length (fun _ => True) true
    (Ev_one fun k => by simp only [laws_eqAccountS.l0]; rw [if_neg (by omega)])
    (fun i hi => .inl ⟨trivial, fun k => by
      show laws_eqAccountS.l0 (k + 1) l l (i : Int) = _
      simp only [laws_eqAccountS.l0]
      rw [if_pos (by omega), if_pos (by omega), if_pos (by omega), w_succ hi (by omega)]
      simp only [eq1_Account, Option.bind_some, if_true]⟩) l.length 0 (by omega) (by omega)
  obtain rfl : r = true := hiff.2 ⟨fun _ _ _ => trivial, rfl⟩
  refine Ev.congr (fun k => ?_) hr
  rw [if_pos rfl]
  rfl
def cvInstr (x : S108) : S90 := ⟨x.f0, x.f1⟩
theorem sz_Instr  (l : List S108) (left : Int) (h0 : 0 ≤ left) (h1 : left ≤ 1048576) (hm : l.length ≤ 9223372036854775807) : laws_szInstrS.f l left = some (if left < (l.length : Int) then -1 else left - l.length) := by
  unfold laws_szInstrS.f
  rw [w64_in _ (by omega) (by omega)]
  by_cases h : left < (l.length : Int)
  · rw [if_pos h, if_pos (by omega)]
  · rw [if_neg h, if_neg (by omega)]
theorem rd1_Instr (l : List S108) (i : Nat) : rd_T108 l (i : Int) = l.getD i z108 := by unfold rd_T108; rw [Int.toNat_natCast]
theorem to_Instr  (l : List S108) (hl : l.length ≤ 1048576) : Ev (fun k => laws_toInstrS.f k l) (l.map cvInstr) := by
  unfold laws_toInstrS.f
  have h := Ev_goes (fun k s i => laws_toInstrS.l0 k l s i) l.length (fun i s => s.take i ++ (l.drop i).map cvInstr) (fun i s => s.length = l.length)
    (fun s hs => Ev_one fun k => by
      simp only [laws_toInstrS.l0]
      rw [if_neg (by omega), List.drop_length, List.map_nil, List.append_nil, ← hs, List.take_length])
    (fun i s hi hs => .inr ⟨s.set i (cvInstr (l.getD i z108)), by rw [List.length_set]; exact hs, by
        rw [List.take_add_one, List.take_set_of_le (Nat.le_refl i), List.getElem?_set_self (by omega), List.drop_eq_getElem_cons hi, List.map_cons]
        have : l.getD i z108 = l[i] := by rw [List.getD_eq_getElem?_getD, List.getElem?_eq_getElem hi]; rfl
        rw [this]
        simp, fun k => by
        show laws_toInstrS.l0 (k + 1) l s (i : Int) = _
        simp only [laws_toInstrS.l0]
        rw [if_pos (by omega), if_pos (by omega), w_succ hi (by omega)]
        simp only [laws_toInstr.f, Option.bind_some, rd1_Instr]
        rw [if_pos (by omega)]
        simp only [Int.toNat_natCast]
        rfl⟩) l.length 0 (List.replicate l.length z90) (by omega) (by omega) (by simp)
  refine Ev.congr (fun k => ?_) h
  rw [if_pos (by omega), if_pos (by omega)]
  rfl
theorem eq1_Instr (x : S90) : laws_eqInstr.f x.f0 x.f1 x.f0 x.f1 = some true := by unfold laws_eqInstr.f; simp
theorem eq_Instr (l : List S90) (hl : l.length ≤ 9223372036854775807) : Ev (fun k => laws_eqInstrS.f k l l) true := by
  unfold laws_eqInstrS.f
  obtain ⟨r, hr, hiff⟩ := Ev_asks (fun k i => laws_eqInstrS.l0 k l l i) l.length (fun _ => True) true
    (Ev_one fun k => by simp only [laws_eqInstrS.l0]; rw [if_neg (by omega)])
    (fun i hi => .inl ⟨trivial, fun k => by
      show laws_eqInstrS.l0 (k + 1) l l (i : Int) = _
      simp only [laws_eqInstrS.l0]
      rw [if_pos (by omega), if_pos (by omega), if_pos (by omega), w_succ hi (by omega)]
      simp only [eq1_Instr, Option.bind_some, if_true]⟩) l.length 0 (by omega) (by omega)
  obtain rfl : r = true := hiff.2 ⟨fun _ _ _ => trivial, rfl⟩
  refine Ev.congr (fun k => ?_) hr
  rw [if_pos rfl]
  rfl
def cvBal (x : S110) : S93 := ⟨x.f0, x.f1, x.f2⟩
theorem sz_Bal  (l : List S110) (left : Int) (h0 : 0 ≤ left) (h1 : left ≤ 1048576) (hm : l.length ≤ 9223372036854775807) : laws_szBalS.f l left = some (if left < (l.length : Int) then -1 else left - l.length) := by
  unfold laws_szBalS.f
  rw [w64_in _ (by omega) (by omega)]
  by_cases h : left < (l.length : Int)
  · rw [if_pos h, if_pos (by omega)]
  · rw [if_neg h, if_neg (by omega)]
theorem rd1_Bal (l : List S110) (i : Nat) : rd_T110 l (i : Int) = l.getD i z110 := by unfold rd_T110; rw [Int.toNat_natCast]
theorem to_Bal  (l : List S110) (hl : l.length ≤ 1048576) : Ev (fun k => laws_toBalS.f k l) (l.map cvBal) := by
  unfold laws_toBalS.f
  have h := Ev_goes (fun k s i => laws_toBalS.l0 k l s i) l.length (fun i s => s.take i ++ (l.drop i).map cvBal) (fun i s => s.length = l.length)
    (fun s hs => Ev_one fun k => by
      simp only [laws_toBalS.l0]
      rw [if_neg (by omega), List.drop_length, List.map_nil, List.append_nil, ← hs, List.take_length])
    (fun i s hi hs => .inr ⟨s.set i (cvBal (l.getD i z110)), by rw [List.length_set]; exact hs, by
        rw [List.take_add_one, List.take_set_of_le (Nat.le_refl i), List.getElem?_set_self (by omega), List.drop_eq_getElem_cons hi, List.map_cons]
        have : l.getD i z110 = l[i] := by rw [List.getD_eq_getElem?_getD, List.getElem?_eq_getElem hi]; rfl
        rw [this]
        simp, fun k => by
        show laws_toBalS.l0 (k + 1) l s (i : Int) = _
        simp only [laws_toBalS.l0]
        rw [if_pos (by omega), if_pos (by omega), w_succ hi (by omega)]
        simp only [laws_toBal.f, Option.bind_some, rd1_Bal]
        rw [if_pos (by omega)]
        simp only [Int.toNat_natCast]
        rfl⟩) l.length 0 (List.replicate l.length z93) (by omega) (by omega) (by simp)
  refine Ev.congr (fun k => ?_) h
  rw [if_pos (by omega), if_pos (by omega)]
  rfl
theorem eq1_Bal (x : S93) : laws_eqBal.f x.f0 x.f1 x.f2 x.f0 x.f1 x.f2 = some true := by unfold laws_eqBal.f; simp
theorem eq_Bal (l : List S93) (hl : l.length ≤ 9223372036854775807) : Ev (fun k => laws_eqBalS.f k l l) true := by
  unfold laws_eqBalS.f
  obtain ⟨r, hr, hiff⟩ := Ev_asks (fun k i => laws_eqBalS.l0 k l l i) l.length (fun _ => True) true
    (Ev_one fun k => by simp only [laws_eqBalS.l0]; rw [if_neg (by omega)])
    (fun i hi => .inl ⟨trivial, fun k => by
      show laws_eqBalS.l0 (k + 1) l l (i : Int) = _
      simp only [laws_eqBalS.l0]
      rw [if_pos (by omega), if_pos (by omega), if_pos (by omega), w_succ hi (by omega)]
      simp only [eq1_Bal, Option.bind_some, if_true]⟩) l.length 0 (by omega) (by omega)
  obtain rfl : r = true := hiff.2 ⟨fun _ _ _ => trivial, rfl⟩
  refine Ev.congr (fun k => ?_) hr
  rw [if_pos rfl]
  rfl
def cvLot (x : S112) : S96 := ⟨x.f0, x.f1, x.f2, x.f3, x.f4⟩
theorem sz_Lot  (l : List S112) (left : Int) (h0 : 0 ≤ left) (h1 : left ≤ 1048576) (hm : l.length ≤ 9223372036854775807) : laws_szLotS.f l left = some (if left < (l.length : Int) then -1 else left - l.length) := by
  unfold laws_szLotS.f
  rw [w64_in _ (by omega) (by omega)]
  by_cases h : left < (l.length : Int)
  · rw [if_pos h, if_pos (by omega)]
  · rw [if_neg h, if_neg (by omega)]
theorem rd1_Lot (l : List S112) (i : Nat) : rd_T112 l (i : Int) = l.getD i z112 := by unfold rd_T112; rw [Int.toNat_natCast]
theorem to_Lot  (l : List S112) (hl : l.length ≤ 1048576) : Ev (fun k => laws_toLotS.f k l) (l.map cvLot) := by
  unfold laws_toLotS.f
  have h := Ev_goes (fun k s i => laws_toLotS.l0 k l s i) l.length (fun i s => s.take i ++ (l.drop i).map cvLot) (fun i s => s.length = l.length)
    (fun s hs => Ev_one fun k => by
      simp only [laws_toLotS.l0]
      rw [if_neg (by omega), List.drop_length, List.map_nil, List.append_nil, ← hs, List.take_length])
    (fun i s hi hs => .inr ⟨s.set i (cvLot (l.getD i z112)), by rw [List.length_set]; exact hs, by
        rw [List.take_add_one, List.take_set_of_le (Nat.le_refl i), List.getElem?_set_self (by omega), List.drop_eq_getElem_cons hi, List.map_cons]
        have : l.getD i z112 = l[i] := by rw [List.getD_eq_getElem?_getD, List.getElem?_eq_getElem hi]; rfl
        rw [this]
        simp, fun k => by
        show laws_toLotS.l0 (k + 1) l s (i : Int) = _
        simp only [laws_toLotS.l0]
        rw [if_pos (by omega), if_pos (by omega), w_succ hi (by omega)]
        simp only [laws_toLot.f, Option.bind_some, rd1_Lot]
        rw [if_pos (by omega)]
        simp only [Int.toNat_natCast]
        rfl⟩) l.length 0 (List.replicate l.length z96) (by omega) (by omega) (by simp)
  refine Ev.congr (fun k => ?_) h
  rw [if_pos (by omega), if_pos (by omega)]
  rfl
theorem eq1_Lot (x : S96) : laws_eqLot.f x.f0 x.f1 x.f2 x.f3 x.f4 x.f0 x.f1 x.f2 x.f3 x.f4 = some true := by unfold laws_eqLot.f; simp
theorem eq_Lot (l : List S96) (hl : l.length ≤ 9223372036854775807) : Ev (fun k => laws_eqLotS.f k l l) true := by
  unfold laws_eqLotS.f
  obtain ⟨r, hr, hiff⟩ := Ev_asks (fun k i => laws_eqLotS.l0 k l l i) l.length (fun _ => True) true
    (Ev_one fun k => by simp only [laws_eqLotS.l0]; rw [if_neg (by omega)])
    (fun i hi => .inl ⟨trivial, fun k => by
      show laws_eqLotS.l0 (k + 1) l l (i : Int) = _
      simp only [laws_eqLotS.l0]
      rw [if_pos (by omega), if_pos (by omega), if_pos (by omega), w_succ hi (by omega)]
      simp only [eq1_Lot, Option.bind_some, if_true]⟩) l.length 0 (by omega) (by omega)
  obtain rfl : r = true := hiff.2 ⟨fun _ _ _ => trivial, rfl⟩
  refine Ev.congr (fun k => ?_) hr
  rw [if_pos rfl]
  rfl
def cvTrade (x : S64) : S50 := ⟨x.f0, x.f1, x.f2, x.f3, x.f4, x.f5, x.f6, x.f7⟩
theorem sz_Trade  (l : List S64) (left : Int) (h0 : 0 ≤ left) (h1 : left ≤ 1048576) (hm : l.length ≤ 9223372036854775807) : laws_szTradeS.f l left = some (if left < (l.length : Int) then -1 else left - l.length) := by
  unfold laws_szTradeS.f
  rw [w64_in _ (by omega) (by omega)]
  by_cases h : left < (l.length : Int)
  · rw [if_pos h, if_pos (by omega)]
  · rw [if_neg h, if_neg (by omega)]
theorem rd1_Trade (l : List S64) (i : Nat) : rd_T64 l (i : Int) = l.getD i z64 := by unfold rd_T64; rw [Int.toNat_natCast]
theorem to_Trade  (l : List S64) (hl : l.length ≤ 1048576) : Ev (fun k => laws_toTradeS.f k l) (l.map cvTrade) := by
  unfold laws_toTradeS.f
  have h := Ev_goes (fun k s i => laws_toTradeS.l0 k l s i) l.length (fun i s => s.take i ++ (l.drop i).map cvTrade) (fun i s => s.length = l.length)
    (fun s hs => Ev_one fun k => by
      simp only [laws_toTradeS.l0]
      rw [if_neg (by omega), List.drop_length, List.map_nil, List.append_nil, ← hs, List.take_length])
    (fun i s hi hs => .inr ⟨s.set i (cvTrade (l.getD i z64)), by rw [List.length_set]; exact hs, by
        rw [List.take_add_one, List.take_set_of_le (Nat.le_refl i), List.getElem?_set_self (by omega), List.drop_eq_getElem_cons hi, List.map_cons]
        have : l.getD i z64 = l[i] := by rw [List.getD_eq_getElem?_getD, List.getElem?_eq_getElem hi]; rfl
        rw [this]
        simp, fun k => by
        show laws_toTradeS.l0 (k + 1) l s (i : Int) = _
        simp only [laws_toTradeS.l0]
        rw [if_pos (by omega), if_pos (by omega), w_succ hi (by omega)]
        simp only [laws_toTrade.f, Option.bind_some, rd1_Trade]
        rw [if_pos (by omega)]
        simp only [Int.toNat_natCast]
        rfl⟩) l.length 0 (List.replicate l.length z50) (by omega) (by omega) (by simp)
  refine Ev.congr (fun k => ?_) h
  rw [if_pos (by omega), if_pos (by omega)]
  rfl
theorem eq1_Trade (x : S50) : laws_eqTrade.f x.f0 x.f1 x.f2 x.f3 x.f4 x.f5 x.f6 x.f7 x.f0 x.f1 x.f2 x.f3 x.f4 x.f5 x.f6 x.f7 = some true := by unfold laws_eqTrade.f; simp
theorem eq_Trade (l : List S50) (hl : l.length ≤ 9223372036854775807) : Ev (fun k => laws_eqTradeS.f k l l) true := by
  unfold laws_eqTradeS.f
  obtain ⟨r, hr, hiff⟩ := Ev_asks (fun k i => laws_eqTradeS.l0 k l l i) l.length (fun _ => True) true
    (Ev_one fun k => by simp only [laws_eqTradeS.l0]; rw [if_neg (by omega)])
    (fun i hi => .inl ⟨trivial, fun k => by
      show laws_eqTradeS.l0 (k + 1) l l (i : Int) = _
      simp only [laws_eqTradeS.l0]
      rw [if_pos (by omega), if_pos (by omega), if_pos (by omega), w_succ hi (by omega)]
      simp only [eq1_Trade, Option.bind_some, if_true]⟩) l.length 0 (by omega) (by omega)
  obtain rfl : r = true := hiff.2 ⟨fun _ _ _ => trivial, rfl⟩
  refine Ev.congr (fun k => ?_) hr
  rw [if_pos rfl]
  rfl
end Go.Proofs.Ytmfgajbkcnlkcaa.T1
namespace Go.Proofs.Ytmfgajbkcnlkcaa.T2
open Go Go.RowKit Go.Proofs.Ytmfgajbkcnlkcaa.P Go.Proofs.YtmfgajbkcnlkcaaW.PrintWords Go.Proofs.YtmfgajbkcnlkcaaW.PrintLast Go.Proofs.Ytmfgajbkcnlkcaa.EV Go.Proofs.Ytmfgajbkcnlkcaa.T1
section
variable (l0 : List S106) (l1 : List S108) (l2 : List S110) (l3 : List S112) (l4 : List S64) (d : Int)
theorem sz_Books (m0 : l0.length ≤ 9223372036854775807) (m1 : l1.length ≤ 9223372036854775807) (m2 : l2.length ≤ 9223372036854775807) (m3 : l3.length ≤ 9223372036854775807) (m4 : l4.length ≤ 9223372036854775807) :
    (∃ n : Int, n < 0 ∧ laws_szBooks.f l0 l1 l2 l3 l4 d 1048576 = some n) ∨ (l0.length ≤ 1048576 ∧ l1.length ≤ 1048576 ∧ l2.length ≤ 1048576 ∧ l3.length ≤ 1048576 ∧ l4.length ≤ 1048576 ∧ ∃ n : Int, 0 ≤ n ∧ laws_szBooks.f l0 l1 l2 l3 l4 d 1048576 = some n) := by
  unfold laws_szBooks.f
  rw [sz_Account l0 1048576 (by decide) (by decide) m0, Option.bind_some]
  by_cases c0 : (1048576 : Int) < (l0.length : Int)
  · rw [if_pos c0, if_pos (by decide)]
    exact .inl ⟨-1, by decide, rfl⟩
  rw [if_neg c0, if_neg (by omega), sz_Instr l1 _ (by omega) (by omega) m1, Option.bind_some]
  by_cases c1 : (1048576 : Int) - (l0.length : Int) < (l1.length : Int)
  · rw [if_pos c1, if_pos (by decide)]
    exact .inl ⟨-1, by decide, rfl⟩
  rw [if_neg c1, if_neg (by omega), sz_Bal l2 _ (by omega) (by omega) m2, Option.bind_some]
  by_cases c2 : (1048576 : Int) - (l0.length : Int) - (l1.length : Int) < (l2.length : Int)
  · rw [if_pos c2, if_pos (by decide)]
    exact .inl ⟨-1, by decide, rfl⟩
  rw [if_neg c2, if_neg (by omega), sz_Lot l3 _ (by omega) (by omega) m3, Option.bind_some]
  by_cases c3 : (1048576 : Int) - (l0.length : Int) - (l1.length : Int) - (l2.length : Int) < (l3.length : Int)
  · rw [if_pos c3, if_pos (by decide)]
    exact .inl ⟨-1, by decide, rfl⟩
  rw [if_neg c3, if_neg (by omega), sz_Trade l4 _ (by omega) (by omega) m4, Option.bind_some]
  by_cases c4 : (1048576 : Int) - (l0.length : Int) - (l1.length : Int) - (l2.length : Int) - (l3.length : Int) < (l4.length : Int)
  · rw [if_pos c4, if_pos (by decide)]
    exact .inl ⟨-1, by decide, rfl⟩
  rw [if_neg c4, if_neg (by omega)]
  exact .inr ⟨by omega, by omega, by omega, by omega, by omega, _, by omega, rfl⟩
theorem to_Books (m0 : l0.length ≤ 1048576) (m1 : l1.length ≤ 1048576) (m2 : l2.length ≤ 1048576) (m3 : l3.length ≤ 1048576) (m4 : l4.length ≤ 1048576) :
    Ev (fun k => laws_toBooks.f k l0 l1 l2 l3 l4 d) (l0.map cvAccount, l1.map cvInstr, l2.map cvBal, l3.map cvLot, l4.map cvTrade, d) := by
  unfold laws_toBooks.f
  exact Ev_bind (to_Account l0 m0) (Ev_bind (to_Instr l1 m1) (Ev_bind (to_Bal l2 m2) (Ev_bind (to_Lot l3 m3) (Ev_bind (to_Trade l4 m4) (Ev.now _)))))
end
theorem eq_Books (A : List S88) (I : List S90) (B : List S93) (L : List S96) (T : List S50) (d : Int) (m0 : A.length ≤ 9223372036854775807) (m1 : I.length ≤ 9223372036854775807) (m2 : B.length ≤ 9223372036854775807) (m3 : L.length ≤ 9223372036854775807) (m4 : T.length ≤ 9223372036854775807) :
    Ev (fun k => laws_eqBooks.f k A I B L T d A I B L T d) true := by
  unfold laws_eqBooks.f
  exact Ev_bind (eq_Account A m0) (Ev.congr (fun k => if_pos rfl) (Ev_bind (eq_Instr I m1) (Ev.congr (fun k => if_pos rfl) (Ev_bind (eq_Bal B m2) (Ev.congr (fun k => if_pos rfl) (Ev_bind (eq_Lot L m3) (Ev.congr (fun k => if_pos rfl) (Ev_bind (eq_Trade T m4) (Ev.congr (fun k => if_pos rfl) (Ev_all_k fun k => if_pos rfl))))))))))
end Go.Proofs.Ytmfgajbkcnlkcaa.T2
namespace Go.Proofs.Ytmfgajbkcnlkcaa.N1
open Go Go.RowKit Go.Proofs.Ytmfgajbkcnlkcaa.P Go.Proofs.YtmfgajbkcnlkcaaW.PrintWords Go.Proofs.YtmfgajbkcnlkcaaW.PrintLast Go.Proofs.Ytmfgajbkcnlkcaa.EV Go.Proofs.Ytmfgajbkcnlkcaa.I1
def No (a : Int) : Prop := 1 ≤ a ∧ a ≤ 1000
def Amt (a : Int) : Prop := -1000000000000000 ≤ a ∧ a ≤ 1000000000000000
instance (a : Int) : Decidable (No a) := by unfold No; exact inferInstance
instance (a : Int) : Decidable (Amt a) := by unfold Amt; exact inferInstance
theorem no_s (a : Int) : spec_l3No.f a = some (decide (No a)) := by unfold spec_l3No.f; rw [in_s]; rfl
theorem no_i (a : Int) : impl_isNo.f a = some (decide (No a)) := by unfold impl_isNo.f; rw [in_i]; rfl
theorem amt_s (a : Int) : spec_AmountOk.f a = some (decide (Amt a)) := by unfold spec_AmountOk.f; rw [in_s]; rfl
theorem amt_i (a : Int) : impl_AmountOk.f a = some (decide (Amt a)) := by unfold impl_AmountOk.f; rw [in_i]; rfl
end Go.Proofs.Ytmfgajbkcnlkcaa.N1
namespace Go.Proofs.Ytmfgajbkcnlkcaa.C1
open Go Go.RowKit Go.Proofs.Ytmfgajbkcnlkcaa.P Go.Proofs.YtmfgajbkcnlkcaaW.PrintWords Go.Proofs.YtmfgajbkcnlkcaaW.PrintLast Go.Proofs.Ytmfgajbkcnlkcaa.EV Go.Proofs.Ytmfgajbkcnlkcaa.I1
theorem no_s (a : Int) : spec_l3No.f a = some (decide (1 ≤ a ∧ a ≤ 1000)) := by unfold spec_l3No.f; rw [in_s]; rfl
theorem no_i (a : Int) : impl_isNo.f a = some (decide (1 ≤ a ∧ a ≤ 1000)) := by unfold impl_isNo.f; rw [in_i]; rfl
def GoodA (l : List S88) (j : Nat) : Prop :=
  (1 ≤ (l.getD j z88).f0 ∧ (l.getD j z88).f0 ≤ 1000) ∧ (1 ≤ (l.getD j z88).f1 ∧ (l.getD j z88).f1 ≤ 4) ∧ (0 < j → (l.getD (j - 1) z88).f0 < (l.getD j z88).f0)
def OkA (l : List S88) : Prop := l.length ≤ 20 ∧ ∀ j, j < l.length → GoodA l j
noncomputable def okA (l : List S88) : Bool := @decide (OkA l) (Classical.propDecidable _)
theorem okA_iff (l : List S88) : okA l = true ↔ OkA l := by unfold okA; exact @decide_eq_true_iff _ (Classical.propDecidable _)
theorem rdA (l : List S88) (i : Nat) : rd_T88 l (i : Int) = l.getD i z88 := by unfold rd_T88; rw [Int.toNat_natCast]
theorem accountsOk_s (l : List S88) : Ev (fun k => spec_AccountsOk.f k l) (okA l) := by
  unfold spec_AccountsOk.f
  by_cases hn : (l.length : Int) > 20
  · have : okA l = false := by
      rw [Bool.eq_false_iff, Ne, okA_iff]
      intro h
      have := h.1
      omega
    rw [this]
    exact Ev_all_k fun k => by rw [if_pos hn]
  · obtain ⟨r, hr, hiff⟩ := Ev_asks (fun k i => spec_AccountsOk.l0 k l i) l.length (GoodA l) true
      (Ev_one fun k => by simp only [spec_AccountsOk.l0]; rw [if_neg (by omega)])
      (fun i hi => by
        have e : ∀ k, spec_AccountsOk.l0 (k + 1) l (i : Int) = if (1 ≤ (l.getD i z88).f0 ∧ (l.getD i z88).f0 ≤ 1000) then (if (1 ≤ (l.getD i z88).f1 ∧ (l.getD i z88).f1 ≤ 4) then (if 0 < i then (if (l.getD (i - 1) z88).f0 < (l.getD i z88).f0 then spec_AccountsOk.l0 k l ((i + 1 : Nat) : Int) else some false) else spec_AccountsOk.l0 k l ((i + 1 : Nat) : Int)) else some false) else some false := by
          intro k
          simp only [spec_AccountsOk.l0]
          rw [if_pos (by omega), if_pos (by omega)]
          rw [w_succ hi (by omega)]
          by_cases h0 : 0 < i
          · rw [w_pred hi h0 (by omega)]
            simp only [no_s, in_s, Option.bind_some, decide_eq_true_iff, rdA]
            split
            · split
              · rw [if_pos (by omega), if_pos (by omega), if_pos (by omega)]
                split
                · rw [if_neg (by omega)]
                · rw [if_pos (by omega)]
              · rfl
            · rfl
          · simp only [no_s, in_s, Option.bind_some, decide_eq_true_iff, rdA]
            split
            · split
              · rw [if_neg (by omega)]
              · rfl
            · rfl
        by_cases hg : GoodA l i
        · refine .inl ⟨hg, fun k => ?_⟩
          show spec_AccountsOk.l0 (k + 1) l (i : Int) = _
          rw [e k, if_pos hg.1, if_pos hg.2.1]
          split
          · rename_i h0
            rw [if_pos (hg.2.2 h0)]
          · rfl
        · refine .inr ⟨hg, fun k => ?_⟩
          show spec_AccountsOk.l0 (k + 1) l (i : Int) = _
          rw [e k]
          unfold GoodA at hg
          split
          · rename_i h1
            split
            · rename_i h2
              split
              · rename_i h3
                rw [if_neg (fun h4 => hg ⟨h1, h2, fun _ => h4⟩)]
              · rename_i h3
                exact absurd ⟨h1, h2, fun h4 => absurd h4 h3⟩ hg
            · rfl
          · rfl) l.length 0 (by omega) (by omega)
    have hq : r = okA l := by
      rw [Bool.eq_iff_iff, hiff, okA_iff]
      exact ⟨fun h => ⟨by omega, fun j hj => h.1 j (Nat.zero_le _) hj⟩, fun h => ⟨fun j _ hj => h.2 j hj, rfl⟩⟩
    subst hq
    exact Ev.congr (fun k => by rw [if_neg hn]; rfl) hr
theorem accountsOk_i (l : List S88) (hm : l.length ≤ 9223372036854775807) : Ev (fun k => impl_AccountsOk.f k l) (okA l) := by
  unfold impl_AccountsOk.f
  obtain ⟨r, hr, hiff⟩ := Ev_asks (fun k i => impl_AccountsOk.l0 k l l (l.length : Int) i) l.length (GoodA l) (decide ((l.length : Int) ≤ 20))
      (Ev_one fun k => by simp only [impl_AccountsOk.l0]; rw [if_neg (by omega)])
      (fun i hi => by
        have e : ∀ k, impl_AccountsOk.l0 (k + 1) l l (l.length : Int) (i : Int) = if (1 ≤ (l.getD i z88).f0 ∧ (l.getD i z88).f0 ≤ 1000) then (if (1 ≤ (l.getD i z88).f1 ∧ (l.getD i z88).f1 ≤ 4) then (if 0 < i then (if (l.getD (i - 1) z88).f0 < (l.getD i z88).f0 then impl_AccountsOk.l0 k l l (l.length : Int) ((i + 1 : Nat) : Int) else some false) else impl_AccountsOk.l0 k l l (l.length : Int) ((i + 1 : Nat) : Int)) else some false) else some false := by
          intro k
          simp only [impl_AccountsOk.l0]
          rw [if_pos (by omega), if_pos (by omega), if_pos (by omega)]
          rw [w_succ hi (by omega)]
          by_cases h0 : 0 < i
          · rw [w_pred hi h0 (by omega)]
            simp only [no_i, in_i, Option.bind_some, decide_eq_true_iff, rdA]
            split
            · split
              · rw [if_pos (by omega), if_pos (by omega), if_pos (by omega)]
                split
                · rw [if_neg (by omega)]
                · rw [if_pos (by omega)]
              · rfl
            · rfl
          · simp only [no_i, in_i, Option.bind_some, decide_eq_true_iff, rdA]
            split
            · split
              · rw [if_neg (by omega)]
              · rfl
            · rfl
        by_cases hg : GoodA l i
        · refine .inl ⟨hg, fun k => ?_⟩
          show impl_AccountsOk.l0 (k + 1) l l (l.length : Int) (i : Int) = _
          rw [e k, if_pos hg.1, if_pos hg.2.1]
          split
          · rename_i h0
            rw [if_pos (hg.2.2 h0)]
          · rfl
        · refine .inr ⟨hg, fun k => ?_⟩
          show impl_AccountsOk.l0 (k + 1) l l (l.length : Int) (i : Int) = _
          rw [e k]
          unfold GoodA at hg
          split
          · rename_i h1
            split
            · rename_i h2
              split
              · rename_i h3
                rw [if_neg (fun h4 => hg ⟨h1, h2, fun _ => h4⟩)]
              · rename_i h3
                exact absurd ⟨h1, h2, fun h4 => absurd h4 h3⟩ hg
            · rfl
          · rfl) l.length 0 (by omega) (by omega)
  have hq : r = okA l := by
    rw [Bool.eq_iff_iff, hiff, okA_iff, decide_eq_true_iff]
    exact ⟨fun h => ⟨by omega, fun j hj => h.1 j (Nat.zero_le _) hj⟩, fun h => ⟨fun j _ hj => h.2 j hj, by have := h.1; omega⟩⟩
  subst hq
  exact hr
def GoodI (l : List S90) (j : Nat) : Prop :=
  (1 ≤ (l.getD j z90).f0 ∧ (l.getD j z90).f0 ≤ 1000) ∧ (1 ≤ (l.getD j z90).f1 ∧ (l.getD j z90).f1 ≤ 2) ∧ (0 < j → (l.getD (j - 1) z90).f0 < (l.getD j z90).f0)
def OkI (l : List S90) : Prop := l.length ≤ 8 ∧ ∀ j, j < l.length → GoodI l j
noncomputable def okI (l : List S90) : Bool := @decide (OkI l) (Classical.propDecidable _)
theorem okI_iff (l : List S90) : okI l = true ↔ OkI l := by unfold okI; exact @decide_eq_true_iff _ (Classical.propDecidable _)
theorem rdI (l : List S90) (i : Nat) : rd_T90 l (i : Int) = l.getD i z90 := by unfold rd_T90; rw [Int.toNat_natCast]
theorem instrsOk_s (l : List S90) : Ev (fun k => spec_InstrsOk.f k l) (okI l) := by
  unfold spec_InstrsOk.f
  by_cases hn : (l.length : Int) > 8
  · have : okI l = false := by
      rw [Bool.eq_false_iff, Ne, okI_iff]
      intro h
      have := h.1
      omega
    rw [this]
    exact Ev_all_k fun k => by rw [if_pos hn]
  · obtain ⟨r, hr, hiff⟩ := Ev_asks (fun k i => spec_InstrsOk.l0 k l i) l.length (GoodI l) true
      (Ev_one fun k => by simp only [spec_InstrsOk.l0]; rw [if_neg (by omega)])
      (fun i hi => by
        have e : ∀ k, spec_InstrsOk.l0 (k + 1) l (i : Int) = if (1 ≤ (l.getD i z90).f0 ∧ (l.getD i z90).f0 ≤ 1000) then (if (1 ≤ (l.getD i z90).f1 ∧ (l.getD i z90).f1 ≤ 2) then (if 0 < i then (if (l.getD (i - 1) z90).f0 < (l.getD i z90).f0 then spec_InstrsOk.l0 k l ((i + 1 : Nat) : Int) else some false) else spec_InstrsOk.l0 k l ((i + 1 : Nat) : Int)) else some false) else some false := by
          intro k
          simp only [spec_InstrsOk.l0]
          rw [if_pos (by omega), if_pos (by omega)]
          rw [w_succ hi (by omega)]
          by_cases h0 : 0 < i
          · rw [w_pred hi h0 (by omega)]
            simp only [no_s, in_s, Option.bind_some, decide_eq_true_iff, rdI]
            split
            · split
              · rw [if_pos (by omega), if_pos (by omega), if_pos (by omega)]
                split
                · rw [if_neg (by omega)]
                · rw [if_pos (by omega)]
              · rfl
            · rfl
          · simp only [no_s, in_s, Option.bind_some, decide_eq_true_iff, rdI]
            split
            · split
              · rw [if_neg (by omega)]
              · rfl
            · rfl
        by_cases hg : GoodI l i
        · refine .inl ⟨hg, fun k => ?_⟩
          show spec_InstrsOk.l0 (k + 1) l (i : Int) = _
          rw [e k, if_pos hg.1, if_pos hg.2.1]
          split
          · rename_i h0
            rw [if_pos (hg.2.2 h0)]
          · rfl
        · refine .inr ⟨hg, fun k => ?_⟩
          show spec_InstrsOk.l0 (k + 1) l (i : Int) = _
          rw [e k]
          unfold GoodI at hg
          split
          · rename_i h1
            split
            · rename_i h2
              split
              · rename_i h3
                rw [if_neg (fun h4 => hg ⟨h1, h2, fun _ => h4⟩)]
              · rename_i h3
                exact absurd ⟨h1, h2, fun h4 => absurd h4 h3⟩ hg
            · rfl
          · rfl) l.length 0 (by omega) (by omega)
    have hq : r = okI l := by
      rw [Bool.eq_iff_iff, hiff, okI_iff]
      exact ⟨fun h => ⟨by omega, fun j hj => h.1 j (Nat.zero_le _) hj⟩, fun h => ⟨fun j _ hj => h.2 j hj, rfl⟩⟩
    subst hq
    exact Ev.congr (fun k => by rw [if_neg hn]; rfl) hr
theorem instrsOk_i (l : List S90) (hm : l.length ≤ 9223372036854775807) : Ev (fun k => impl_InstrsOk.f k l) (okI l) := by
  unfold impl_InstrsOk.f
  obtain ⟨r, hr, hiff⟩ := Ev_asks (fun k i => impl_InstrsOk.l0 k l l (l.length : Int) i) l.length (GoodI l) (decide ((l.length : Int) ≤ 8))
      (Ev_one fun k => by simp only [impl_InstrsOk.l0]; rw [if_neg (by omega)])
      (fun i hi => by
        have e : ∀ k, impl_InstrsOk.l0 (k + 1) l l (l.length : Int) (i : Int) = if (1 ≤ (l.getD i z90).f0 ∧ (l.getD i z90).f0 ≤ 1000) then (if (1 ≤ (l.getD i z90).f1 ∧ (l.getD i z90).f1 ≤ 2) then (if 0 < i then (if (l.getD (i - 1) z90).f0 < (l.getD i z90).f0 then impl_InstrsOk.l0 k l l (l.length : Int) ((i + 1 : Nat) : Int) else some false) else impl_InstrsOk.l0 k l l (l.length : Int) ((i + 1 : Nat) : Int)) else some false) else some false := by
          intro k
          simp only [impl_InstrsOk.l0]
          rw [if_pos (by omega), if_pos (by omega), if_pos (by omega)]
          rw [w_succ hi (by omega)]
          by_cases h0 : 0 < i
          · rw [w_pred hi h0 (by omega)]
            simp only [no_i, in_i, Option.bind_some, decide_eq_true_iff, rdI]
            split
            · split
              · rw [if_pos (by omega), if_pos (by omega), if_pos (by omega)]
                split
                · rw [if_neg (by omega)]
                · rw [if_pos (by omega)]
              · rfl
            · rfl
          · simp only [no_i, in_i, Option.bind_some, decide_eq_true_iff, rdI]
            split
            · split
              · rw [if_neg (by omega)]
              · rfl
            · rfl
        by_cases hg : GoodI l i
        · refine .inl ⟨hg, fun k => ?_⟩
          show impl_InstrsOk.l0 (k + 1) l l (l.length : Int) (i : Int) = _
          rw [e k, if_pos hg.1, if_pos hg.2.1]
          split
          · rename_i h0
            rw [if_pos (hg.2.2 h0)]
          · rfl
        · refine .inr ⟨hg, fun k => ?_⟩
          show impl_InstrsOk.l0 (k + 1) l l (l.length : Int) (i : Int) = _
          rw [e k]
          unfold GoodI at hg
          split
          · rename_i h1
            split
            · rename_i h2
              split
              · rename_i h3
                rw [if_neg (fun h4 => hg ⟨h1, h2, fun _ => h4⟩)]
              · rename_i h3
                exact absurd ⟨h1, h2, fun h4 => absurd h4 h3⟩ hg
            · rfl
          · rfl) l.length 0 (by omega) (by omega)
  have hq : r = okI l := by
    rw [Bool.eq_iff_iff, hiff, okI_iff, decide_eq_true_iff]
    exact ⟨fun h => ⟨by omega, fun j hj => h.1 j (Nat.zero_le _) hj⟩, fun h => ⟨fun j _ hj => h.2 j hj, by have := h.1; omega⟩⟩
  subst hq
  exact hr
end Go.Proofs.Ytmfgajbkcnlkcaa.C1
namespace Go.Proofs.Ytmfgajbkcnlkcaa.C2
open Go Go.RowKit Go.Proofs.Ytmfgajbkcnlkcaa.P Go.Proofs.YtmfgajbkcnlkcaaW.PrintWords Go.Proofs.YtmfgajbkcnlkcaaW.PrintLast Go.Proofs.Ytmfgajbkcnlkcaa.EV Go.Proofs.Ytmfgajbkcnlkcaa.I1 Go.Proofs.Ytmfgajbkcnlkcaa.C1
def kindA : List S88 → Int → Int
  | [], _ => 0
  | x :: l, no => if x.f0 = no then x.f1 else kindA l no
theorem kindL_i (l : List S88) (no : Int) (hm : l.length ≤ 9223372036854775807) : Ev (fun k => impl_accountKind.f k l no) (kindA l no) := by
  unfold impl_accountKind.f
  have h := Ev_goes (fun k (_ : Unit) i => impl_accountKind.l0 k no l (l.length : Int) i) l.length (fun i _ => kindA (l.drop i) no) (fun _ _ => True)
    (fun s hs => Ev_one fun k => by
      simp only [impl_accountKind.l0]
      rw [if_neg (by omega), List.drop_length]
      rfl)
    (fun i s hi _ => by
      have hd : l.drop i = l.getD i z88 :: l.drop (i + 1) := by
        rw [List.drop_eq_getElem_cons hi, List.getD_eq_getElem?_getD, List.getElem?_eq_getElem hi]
        rfl
      have e : ∀ k, impl_accountKind.l0 (k + 1) no l (l.length : Int) (i : Int) = if (l.getD i z88).f0 = no then some (l.getD i z88).f1 else impl_accountKind.l0 k no l (l.length : Int) ((i + 1 : Nat) : Int) := by
        intro k
        simp only [impl_accountKind.l0]
        rw [if_pos (by omega), if_pos (by omega), if_pos (by omega), w_succ hi (by omega)]
        simp only [rdA]
      by_cases hq : (l.getD i z88).f0 = no
      · refine .inl (Ev_one fun k => ?_)
        show impl_accountKind.l0 (k + 1) no l (l.length : Int) (i : Int) = some (kindA (l.drop i) no)
        rw [e, if_pos hq, hd]
        unfold kindA
        rw [if_pos hq]
      · refine .inr ⟨(), trivial, ?_, fun k => ?_⟩
        · show kindA (l.drop (i + 1)) no = kindA (l.drop i) no
          rw [hd]
          conv => rhs; unfold kindA
          rw [if_neg hq]
        · show impl_accountKind.l0 (k + 1) no l (l.length : Int) (i : Int) = _
          rw [e, if_neg hq]) l.length 0 () (by omega) (by omega) trivial
  exact h
noncomputable def kindOkA (l : List S88) (no : Int) : Int := if okA l = true then kindA l no else 0
theorem kindOkA_s (l : List S88) (no : Int) (hm : l.length ≤ 9223372036854775807) : Ev (fun k => spec_AccountKind.f k l no) (kindOkA l no) := by
  unfold spec_AccountKind.f
  have h := Ev_goes' (fun k (_ : Unit) i => spec_AccountKind.l0 k l no i) l.length (fun i _ => if okA l = true then kindA (l.drop i) no else 0) (fun _ _ => True)
    (fun s hs => by
      refine Ev.step (f := fun k => spec_AccountKind.j1 k l no (l.length : Int) false) (fun k => ?_) (Ev_one fun k => ?_)
      · simp only [spec_AccountKind.l0]
        rw [if_neg (by omega)]
      · simp only [spec_AccountKind.j1]
        rw [if_neg (by decide), List.drop_length]
        split <;> rfl)
    (fun i s hi _ => by
      have hd := drop_getD z88 l i hi
      have e0 : ∀ k, spec_AccountKind.l0 (k + 1) l no (i : Int) = (spec_AccountsOk.f k l).bind fun t => spec_AccountKind.j1 k l no (i : Int) t := by
        intro k
        simp only [spec_AccountKind.l0]
        rw [if_pos (by omega)]
      cases hok : okA l with
      | false =>
        left
        refine Ev.step e0 (Ev_bind (accountsOk_s l) ?_)
        rw [hok, if_neg (by decide)]
        exact Ev_one fun k => by simp only [spec_AccountKind.j1]; rw [if_neg (by decide)]
      | true =>
        have e1 : ∀ k, spec_AccountKind.j1 (k + 1) l no (i : Int) true = if (l.getD i z88).f0 = no then some (l.getD i z88).f1 else spec_AccountKind.l0 k l no ((i + 1 : Nat) : Int) := by
          intro k
          simp only [spec_AccountKind.j1]
          rw [if_pos trivial, if_pos (by omega), if_pos (by omega), w_succ hi (by omega)]
          simp only [rdA]
        by_cases hq : (l.getD i z88).f0 = no
        · left
          refine Ev.step e0 (Ev_bind (accountsOk_s l) ?_)
          rw [hok, if_pos rfl, hd]
          unfold kindA
          rw [if_pos hq]
          exact Ev_one fun k => by rw [e1, if_pos hq]
        · refine .inr ⟨(), trivial, ?_, fun r hr => ?_⟩
          · rw [if_pos rfl, if_pos rfl, hd]
            conv => rhs; unfold kindA
            rw [if_neg hq]
          · refine Ev.step e0 (Ev_bind (accountsOk_s l) ?_)
            rw [hok]
            exact Ev.step (fun k => by rw [e1, if_neg hq]) hr) l.length 0 () (by omega) (by omega) trivial
  exact h
def kindI : List S90 → Int → Int
  | [], _ => 0
  | x :: l, no => if x.f0 = no then x.f1 else kindI l no
theorem kindM_i (l : List S90) (no : Int) (hm : l.length ≤ 9223372036854775807) : Ev (fun k => impl_instrKind.f k l no) (kindI l no) := by
  unfold impl_instrKind.f
  have h := Ev_goes (fun k (_ : Unit) i => impl_instrKind.l0 k no l (l.length : Int) i) l.length (fun i _ => kindI (l.drop i) no) (fun _ _ => True)
    (fun s hs => Ev_one fun k => by
      simp only [impl_instrKind.l0]
      rw [if_neg (by omega), List.drop_length]
      rfl)
    (fun i s hi _ => by
      have hd : l.drop i = l.getD i z90 :: l.drop (i + 1) := by
        rw [List.drop_eq_getElem_cons hi, List.getD_eq_getElem?_getD, List.getElem?_eq_getElem hi]
        rfl
      have e : ∀ k, impl_instrKind.l0 (k + 1) no l (l.length : Int) (i : Int) = if (l.getD i z90).f0 = no then some (l.getD i z90).f1 else impl_instrKind.l0 k no l (l.length : Int) ((i + 1 : Nat) : Int) := by
        intro k
        simp only [impl_instrKind.l0]
        rw [if_pos (by omega), if_pos (by omega), if_pos (by omega), w_succ hi (by omega)]
        simp only [rdI]
      by_cases hq : (l.getD i z90).f0 = no
      · refine .inl (Ev_one fun k => ?_)
        show impl_instrKind.l0 (k + 1) no l (l.length : Int) (i : Int) = some (kindI (l.drop i) no)
        rw [e, if_pos hq, hd]
        unfold kindI
        rw [if_pos hq]
      · refine .inr ⟨(), trivial, ?_, fun k => ?_⟩
        · show kindI (l.drop (i + 1)) no = kindI (l.drop i) no
          rw [hd]
          conv => rhs; unfold kindI
          rw [if_neg hq]
        · show impl_instrKind.l0 (k + 1) no l (l.length : Int) (i : Int) = _
          rw [e, if_neg hq]) l.length 0 () (by omega) (by omega) trivial
  exact h
noncomputable def kindOkI (l : List S90) (no : Int) : Int := if okI l = true then kindI l no else 0
theorem kindOkI_s (l : List S90) (no : Int) (hm : l.length ≤ 9223372036854775807) : Ev (fun k => spec_InstrKind.f k l no) (kindOkI l no) := by
  unfold spec_InstrKind.f
  have h := Ev_goes' (fun k (_ : Unit) i => spec_InstrKind.l0 k l no i) l.length (fun i _ => if okI l = true then kindI (l.drop i) no else 0) (fun _ _ => True)
    (fun s hs => by
      refine Ev.step (f := fun k => spec_InstrKind.j1 k l no (l.length : Int) false) (fun k => ?_) (Ev_one fun k => ?_)
      · simp only [spec_InstrKind.l0]
        rw [if_neg (by omega)]
      · simp only [spec_InstrKind.j1]
        rw [if_neg (by decide), List.drop_length]
        split <;> rfl)
    (fun i s hi _ => by
      have hd := drop_getD z90 l i hi
      have e0 : ∀ k, spec_InstrKind.l0 (k + 1) l no (i : Int) = (spec_InstrsOk.f k l).bind fun t => spec_InstrKind.j1 k l no (i : Int) t := by
        intro k
        simp only [spec_InstrKind.l0]
        rw [if_pos (by omega)]
      cases hok : okI l with
      | false =>
        left
        refine Ev.step e0 (Ev_bind (instrsOk_s l) ?_)
        rw [hok, if_neg (by decide)]
        exact Ev_one fun k => by simp only [spec_InstrKind.j1]; rw [if_neg (by decide)]
      | true =>
        have e1 : ∀ k, spec_InstrKind.j1 (k + 1) l no (i : Int) true = if (l.getD i z90).f0 = no then some (l.getD i z90).f1 else spec_InstrKind.l0 k l no ((i + 1 : Nat) : Int) := by
          intro k
          simp only [spec_InstrKind.j1]
          rw [if_pos trivial, if_pos (by omega), if_pos (by omega), w_succ hi (by omega)]
          simp only [rdI]
        by_cases hq : (l.getD i z90).f0 = no
        · left
          refine Ev.step e0 (Ev_bind (instrsOk_s l) ?_)
          rw [hok, if_pos rfl, hd]
          unfold kindI
          rw [if_pos hq]
          exact Ev_one fun k => by rw [e1, if_pos hq]
        · refine .inr ⟨(), trivial, ?_, fun r hr => ?_⟩
          · rw [if_pos rfl, if_pos rfl, hd]
            conv => rhs; unfold kindI
            rw [if_neg hq]
          · refine Ev.step e0 (Ev_bind (instrsOk_s l) ?_)
            rw [hok]
            exact Ev.step (fun k => by rw [e1, if_neg hq]) hr) l.length 0 () (by omega) (by omega) trivial
  exact h
end Go.Proofs.Ytmfgajbkcnlkcaa.C2
