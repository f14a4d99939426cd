/- What the law FnExactTradeOf leans on, cut out of this repo's own texts by a program of this repo: plain functions, the walks that tie the Go calls to them, the law over lists and numbers, and the row. -/
import Derived.Test.YtmfgajbkcnlkcaaZFnExactTradeOf3
import Derived.RowKit
import Derived.IntWalk
namespace Go.Proofs.Ytmfgajbkcnlkcaa.P
end Go.Proofs.Ytmfgajbkcnlkcaa.P
namespace Go.Proofs.Ytmfgajbkcnlkcaa.EV
end Go.Proofs.Ytmfgajbkcnlkcaa.EV
namespace Go.Proofs.Ytmfgajbkcnlkcaa.T1
end Go.Proofs.Ytmfgajbkcnlkcaa.T1
namespace Go.Proofs.Ytmfgajbkcnlkcaa.I1
end Go.Proofs.Ytmfgajbkcnlkcaa.I1
namespace Go.Proofs.Ytmfgajbkcnlkcaa.C1
end Go.Proofs.Ytmfgajbkcnlkcaa.C1
namespace Go.Proofs.Ytmfgajbkcnlkcaa.N1
end Go.Proofs.Ytmfgajbkcnlkcaa.N1
namespace Go.Proofs.Ytmfgajbkcnlkcaa.B1
end Go.Proofs.Ytmfgajbkcnlkcaa.B1
namespace Go.Proofs.Ytmfgajbkcnlkcaa.E1
end Go.Proofs.Ytmfgajbkcnlkcaa.E1
namespace Go.Proofs.Ytmfgajbkcnlkcaa.AI
open Go Go.RowKit Go.Proofs.YtmfgajbkcnlkcaaW.PrintWords Go.Proofs.Ytmfgajbkcnlkcaa.P
set_option linter.unusedVariables false
set_option linter.all false
set_option maxRecDepth 100000
def o10 (l0 : List S64) (r : (List (S50))) : Out Rw := ⟨[.c (.rw 1)], [.rows 0 (.e64 l0), .rows 2 (.e50 r)]⟩
def Q10 : Mean Rw := fun k a h Z K => match a, h with
  | [.w (.c (.rw 0))], [.rows 0 (.e64 l0)] => (laws_toTradeS.f k l0).bind fun r => K (o10 l0 r)
  | _, _ => none
def O10 : List (Cal Rw) := [⟨33, false, Q33⟩]
theorem O10_ok : ∀ c ∈ O10, Sound Try.prog c := by
  intro c hc
  simp only [O10, List.mem_cons, List.not_mem_nil, or_false] at hc
  rcases hc with rfl
  · exact d33
def C10_0 : Nat → St Rw → Option (Out Rw) := fun k st => match st with
  | ⟨23, 1, 2, [(0, .w (.c (.rw 0))), (3, .w (.c (.rw 1))), (4, .w (.c (.sc (.i .i64 x4))))], [(0, .rows 0 (.e64 l0)), (1, .rows 2 (.e50 y1))]⟩ => (laws_toTradeS.l0 k l0 y1 x4).bind fun r => some (o10 l0 r)
  | _ => none
def K10 : List (Cut Rw) := [⟨[false, true, false, true, true], [0, 3, 4], C10_0⟩]
theorem e10_0 (k : Nat) (x4 : Int) (l0 : List S64) (y1 : List S50) : Lo (seg Try.prog O10 K10 k (body Try.f10) (kEnd Try.prog Try.f10.results.toList) [false, true, false, true, true] ⟨23, 1, 2, [(0, .w (.c (.rw 0))), (3, .w (.c (.rw 1))), (4, .w (.c (.sc (.i .i64 x4))))], [(0, .rows 0 (.e64 l0)), (1, .rows 2 (.e50 y1))]⟩) ((laws_toTradeS.l0 (k + 1) l0 y1 x4).bind fun r => some (o10 l0 r)) :=
  Lo.of (b := (if x4 < (l0.length : Int) then (if 0 ≤ x4 then (if x4 < (l0.length : Int) then ((laws_toTrade.f (rd_T64 l0 x4).f0 (rd_T64 l0 x4).f1 (rd_T64 l0 x4).f2 (rd_T64 l0 x4).f3 (rd_T64 l0 x4).f4 (rd_T64 l0 x4).f5 (rd_T64 l0 x4).f6 (rd_T64 l0 x4).f7).bind fun r4 => (if 0 ≤ x4 then (if x4 < (y1.length : Int) then ((laws_toTradeS.l0 k l0 (y1.set x4.toNat (⟨r4.1, r4.2.1, r4.2.2.1, r4.2.2.2.1, r4.2.2.2.2.1, r4.2.2.2.2.2.1, r4.2.2.2.2.2.2.1, r4.2.2.2.2.2.2.2⟩ : S50)) (RowKit.wrap64 (x4 + 1))).bind fun r => some (o10 l0 r)) else none) else none)) else none) else none) else (some (o10 l0 y1)))) (by kernel_rfl) (by
    rw [laws_toTradeS.l0]
    repeat' first
    | with_reducible exact none_L
    | with_reducible refine let_L ?_
    | with_reducible refine some_L ?_
    | with_reducible refine ite_L (fun _ => ?_) (fun _ => ?_)
    | with_reducible refine bind_L (fun _ => ?_)
    | with_reducible refine drop_L (by first | assumption | omega) ?_
    | with_reducible refine ite_I (by omega) (fun _ => ?_) (fun _ => ?_)
    | rfl
    | simp only [Bool.decide_eq_true]
    | exact Lo.refl _
    | (refine Lo.eq ?_; simp only [Bool.decide_eq_true]; done)
    | refine ite_L (fun _ => ?_) (fun _ => ?_))
theorem h10_0 (k : Nat) (st : St Rw) (out : Out Rw) (h : C10_0 (k + 1) st = some out) : seg Try.prog O10 K10 k (body Try.f10) (kEnd Try.prog Try.f10.results.toList) [false, true, false, true, true] st = some out := by
  unfold C10_0 at h
  split at h
  · exact e10_0 _ _ _ _ out h
  · cases h
theorem z10_ok : ∀ c ∈ K10, ∀ st, c.f 0 st = none := by
  intro c hc st
  simp only [K10, List.mem_cons, List.not_mem_nil, or_false] at hc
  rcases hc with rfl
  · show C10_0 0 st = none; unfold C10_0; split <;> rfl
theorem h10_ok : ∀ c ∈ K10, ∀ k st out, c.f (k + 1) st = some out → seg Try.prog O10 K10 k (body Try.f10) (kEnd Try.prog Try.f10.results.toList) c.p st = some out := by
  intro c hc k st out h
  simp only [K10, List.mem_cons, List.not_mem_nil, or_false] at hc
  rcases hc with rfl
  · exact h10_0 k st out h
theorem g10 (k : Nat) (l0 : List (S64)) (r : (List (S50))) (h : laws_toTradeS.f k l0 = some r) : Good Try.prog 10 [.w (.c (.rw 0))] [.rows 0 (.e64 l0)] (o10 l0 r) := by
  refine fn_ok (k := k) O10_ok mixed Try.func10 (root := body Try.f10) (by kernel_rfl) z10_ok h10_ok ?_
  refine Lo.of (b := (if (l0.length : Int) = (l0.length : Int) then (if 0 ≤ (l0.length : Int) then (if (l0.length : Int) < 4398046511105 then ((laws_toTradeS.l0 k l0 (List.replicate ((l0.length : Int)).toNat z50) 0).bind fun r => some (o10 l0 r)) else none) else none) else none)) (c := (laws_toTradeS.f k l0).bind fun r => some (o10 l0 r)) (by kernel_rfl) ?_ _ (by rw [h]; rfl)
  · unfold laws_toTradeS.f
    repeat' first
    | with_reducible exact none_L
    | with_reducible refine let_L ?_
    | with_reducible refine some_L ?_
    | with_reducible refine ite_L (fun _ => ?_) (fun _ => ?_)
    | with_reducible refine bind_L (fun _ => ?_)
    | with_reducible refine drop_L (by first | assumption | omega) ?_
    | with_reducible refine ite_I (by omega) (fun _ => ?_) (fun _ => ?_)
    | rfl
    | simp only [Bool.decide_eq_true]
    | exact Lo.refl _
    | (refine Lo.eq ?_; simp only [Bool.decide_eq_true]; done)
    | refine ite_L (fun _ => ?_) (fun _ => ?_)
theorem d10 : Sound Try.prog ⟨10, false, Q10⟩ := sound_of ⟨_, Try.func10, by kernel_rfl, by kernel_rfl⟩ fun k args hp Z K z h => by
  unfold Q10 at h
  split at h
  · obtain ⟨r, hr, hK⟩ := Option.bind_eq_some_iff.1 h
    exact ⟨_, hK, g10 k _ r hr⟩
  · cases h
def o87 (r : Int × Int) : Out Rw := ⟨[.ag [.sc (.i .i64 r.1), .sc (.i .i64 r.2)]], []⟩
def Q87 : Mean Rw := fun k a h Z K => match a, h with
  | [.w (.ag [.sc (.i .i64 a0_0), .sc (.i .i64 a0_1)])], [] => (laws_toAccount.f a0_0 a0_1).bind fun r => K (o87 r)
  | _, _ => none
def O87 : List (Cal Rw) := []
theorem O87_ok : ∀ c ∈ O87, Sound Try.prog c := by
  intro c hc
  simp only [O87, List.mem_cons, List.not_mem_nil, or_false] at hc
def K87 : List (Cut Rw) := []
theorem z87_ok : ∀ c ∈ K87, ∀ st, c.f 0 st = none := by
  intro c hc st
  simp only [K87, List.mem_cons, List.not_mem_nil, or_false] at hc
theorem h87_ok : ∀ c ∈ K87, ∀ k st out, c.f (k + 1) st = some out → seg Try.prog O87 K87 k (body Try.f87) (kEnd Try.prog Try.f87.results.toList) c.p st = some out := by
  intro c hc k st out h
  simp only [K87, List.mem_cons, List.not_mem_nil, or_false] at hc
theorem g87 (k : Nat) (a0_0 : Int) (a0_1 : Int) (r : Int × Int) (h : laws_toAccount.f a0_0 a0_1 = some r) : Good Try.prog 87 [.w (.ag [.sc (.i .i64 a0_0), .sc (.i .i64 a0_1)])] [] (o87 r) := by
  refine fn_ok (k := k) O87_ok mixed Try.func87 (root := body Try.f87) (by kernel_rfl) z87_ok h87_ok ?_
  refine Lo.of (b := (some (o87 (a0_0, a0_1)))) (c := (laws_toAccount.f a0_0 a0_1).bind fun r => some (o87 r)) (by kernel_rfl) ?_ _ (by rw [h]; rfl)
  · unfold laws_toAccount.f
    repeat' first
    | with_reducible exact none_L
    | with_reducible refine let_L ?_
    | with_reducible refine some_L ?_
    | with_reducible refine ite_L (fun _ => ?_) (fun _ => ?_)
    | with_reducible refine bind_L (fun _ => ?_)
    | with_reducible refine drop_L (by first | assumption | omega) ?_
    | with_reducible refine ite_I (by omega) (fun _ => ?_) (fun _ => ?_)
    | rfl
    | simp only [Bool.decide_eq_true]
    | exact Lo.refl _
    | (refine Lo.eq ?_; simp only [Bool.decide_eq_true]; done)
    | refine ite_L (fun _ => ?_) (fun _ => ?_)
theorem d87 : Sound Try.prog ⟨87, false, Q87⟩ := sound_of ⟨_, Try.func87, by kernel_rfl, by kernel_rfl⟩ fun k args hp Z K z h => by
  unfold Q87 at h
  split at h
  · obtain ⟨r, hr, hK⟩ := Option.bind_eq_some_iff.1 h
    exact ⟨_, hK, g87 k _ _ r hr⟩
  · cases h
def o62 (l0 : List S106) (r : (List (S88))) : Out Rw := ⟨[.c (.rw 1)], [.rows 0 (.e106 l0), .rows 2 (.e88 r)]⟩
def Q62 : Mean Rw := fun k a h Z K => match a, h with
  | [.w (.c (.rw 0))], [.rows 0 (.e106 l0)] => (laws_toAccountS.f k l0).bind fun r => K (o62 l0 r)
  | _, _ => none
def O62 : List (Cal Rw) := [⟨87, false, Q87⟩]
theorem O62_ok : ∀ c ∈ O62, Sound Try.prog c := by
  intro c hc
  simp only [O62, List.mem_cons, List.not_mem_nil, or_false] at hc
  rcases hc with rfl
  · exact d87
def C62_0 : Nat → St Rw → Option (Out Rw) := fun k st => match st with
  | ⟨23, 1, 2, [(0, .w (.c (.rw 0))), (3, .w (.c (.rw 1))), (4, .w (.c (.sc (.i .i64 x4))))], [(0, .rows 0 (.e106 l0)), (1, .rows 2 (.e88 y1))]⟩ => (laws_toAccountS.l0 k l0 y1 x4).bind fun r => some (o62 l0 r)
  | _ => none
def K62 : List (Cut Rw) := [⟨[false, true, false, true, true], [0, 3, 4], C62_0⟩]
theorem e62_0 (k : Nat) (x4 : Int) (l0 : List S106) (y1 : List S88) : Lo (seg Try.prog O62 K62 k (body Try.f62) (kEnd Try.prog Try.f62.results.toList) [false, true, false, true, true] ⟨23, 1, 2, [(0, .w (.c (.rw 0))), (3, .w (.c (.rw 1))), (4, .w (.c (.sc (.i .i64 x4))))], [(0, .rows 0 (.e106 l0)), (1, .rows 2 (.e88 y1))]⟩) ((laws_toAccountS.l0 (k + 1) l0 y1 x4).bind fun r => some (o62 l0 r)) :=
  Lo.of (b := (if x4 < (l0.length : Int) then (if 0 ≤ x4 then (if x4 < (l0.length : Int) then ((laws_toAccount.f (rd_T106 l0 x4).f0 (rd_T106 l0 x4).f1).bind fun r4 => (if 0 ≤ x4 then (if x4 < (y1.length : Int) then ((laws_toAccountS.l0 k l0 (y1.set x4.toNat (⟨r4.1, r4.2⟩ : S88)) (RowKit.wrap64 (x4 + 1))).bind fun r => some (o62 l0 r)) else none) else none)) else none) else none) else (some (o62 l0 y1)))) (by kernel_rfl) (by
    rw [laws_toAccountS.l0]
    repeat' first
    | with_reducible exact none_L
    | with_reducible refine let_L ?_
    | with_reducible refine some_L ?_
    | with_reducible refine ite_L (fun _ => ?_) (fun _ => ?_)
    | with_reducible refine bind_L (fun _ => ?_)
    | with_reducible refine drop_L (by first | assumption | omega) ?_
    | with_reducible refine ite_I (by omega) (fun _ => ?_) (fun _ => ?_)
    | rfl
    | simp only [Bool.decide_eq_true]
    | exact Lo.refl _
    | (refine Lo.eq ?_; simp only [Bool.decide_eq_true]; done)
    | refine ite_L (fun _ => ?_) (fun _ => ?_))
theorem h62_0 (k : Nat) (st : St Rw) (out : Out Rw) (h : C62_0 (k + 1) st = some out) : seg Try.prog O62 K62 k (body Try.f62) (kEnd Try.prog Try.f62.results.toList) [false, true, false, true, true] st = some out := by
  unfold C62_0 at h
  split at h
  · exact e62_0 _ _ _ _ out h
  · cases h
theorem z62_ok : ∀ c ∈ K62, ∀ st, c.f 0 st = none := by
  intro c hc st
  simp only [K62, List.mem_cons, List.not_mem_nil, or_false] at hc
  rcases hc with rfl
  · show C62_0 0 st = none; unfold C62_0; split <;> rfl
theorem h62_ok : ∀ c ∈ K62, ∀ k st out, c.f (k + 1) st = some out → seg Try.prog O62 K62 k (body Try.f62) (kEnd Try.prog Try.f62.results.toList) c.p st = some out := by
  intro c hc k st out h
  simp only [K62, List.mem_cons, List.not_mem_nil, or_false] at hc
  rcases hc with rfl
  · exact h62_0 k st out h
theorem g62 (k : Nat) (l0 : List (S106)) (r : (List (S88))) (h : laws_toAccountS.f k l0 = some r) : Good Try.prog 62 [.w (.c (.rw 0))] [.rows 0 (.e106 l0)] (o62 l0 r) := by
  refine fn_ok (k := k) O62_ok mixed Try.func62 (root := body Try.f62) (by kernel_rfl) z62_ok h62_ok ?_
  refine Lo.of (b := (if (l0.length : Int) = (l0.length : Int) then (if 0 ≤ (l0.length : Int) then (if (l0.length : Int) < 17592186044417 then ((laws_toAccountS.l0 k l0 (List.replicate ((l0.length : Int)).toNat z88) 0).bind fun r => some (o62 l0 r)) else none) else none) else none)) (c := (laws_toAccountS.f k l0).bind fun r => some (o62 l0 r)) (by kernel_rfl) ?_ _ (by rw [h]; rfl)
  · unfold laws_toAccountS.f
    repeat' first
    | with_reducible exact none_L
    | with_reducible refine let_L ?_
    | with_reducible refine some_L ?_
    | with_reducible refine ite_L (fun _ => ?_) (fun _ => ?_)
    | with_reducible refine bind_L (fun _ => ?_)
    | with_reducible refine drop_L (by first | assumption | omega) ?_
    | with_reducible refine ite_I (by omega) (fun _ => ?_) (fun _ => ?_)
    | rfl
    | simp only [Bool.decide_eq_true]
    | exact Lo.refl _
    | (refine Lo.eq ?_; simp only [Bool.decide_eq_true]; done)
    | refine ite_L (fun _ => ?_) (fun _ => ?_)
theorem d62 : Sound Try.prog ⟨62, false, Q62⟩ := sound_of ⟨_, Try.func62, by kernel_rfl, by kernel_rfl⟩ fun k args hp Z K z h => by
  unfold Q62 at h
  split at h
  · obtain ⟨r, hr, hK⟩ := Option.bind_eq_some_iff.1 h
    exact ⟨_, hK, g62 k _ r hr⟩
  · cases h
def o88 (r : Int × Int) : Out Rw := ⟨[.ag [.sc (.i .i64 r.1), .sc (.i .i64 r.2)]], []⟩
def Q88 : Mean Rw := fun k a h Z K => match a, h with
  | [.w (.ag [.sc (.i .i64 a0_0), .sc (.i .i64 a0_1)])], [] => (laws_toInstr.f a0_0 a0_1).bind fun r => K (o88 r)
  | _, _ => none
def O88 : List (Cal Rw) := []
theorem O88_ok : ∀ c ∈ O88, Sound Try.prog c := by
  intro c hc
  simp only [O88, List.mem_cons, List.not_mem_nil, or_false] at hc
def K88 : List (Cut Rw) := []
theorem z88_ok : ∀ c ∈ K88, ∀ st, c.f 0 st = none := by
  intro c hc st
  simp only [K88, List.mem_cons, List.not_mem_nil, or_false] at hc
theorem h88_ok : ∀ c ∈ K88, ∀ k st out, c.f (k + 1) st = some out → seg Try.prog O88 K88 k (body Try.f88) (kEnd Try.prog Try.f88.results.toList) c.p st = some out := by
  intro c hc k st out h
  simp only [K88, List.mem_cons, List.not_mem_nil, or_false] at hc
theorem g88 (k : Nat) (a0_0 : Int) (a0_1 : Int) (r : Int × Int) (h : laws_toInstr.f a0_0 a0_1 = some r) : Good Try.prog 88 [.w (.ag [.sc (.i .i64 a0_0), .sc (.i .i64 a0_1)])] [] (o88 r) := by
  refine fn_ok (k := k) O88_ok mixed Try.func88 (root := body Try.f88) (by kernel_rfl) z88_ok h88_ok ?_
  refine Lo.of (b := (some (o88 (a0_0, a0_1)))) (c := (laws_toInstr.f a0_0 a0_1).bind fun r => some (o88 r)) (by kernel_rfl) ?_ _ (by rw [h]; rfl)
  · unfold laws_toInstr.f
    repeat' first
    | with_reducible exact none_L
    | with_reducible refine let_L ?_
    | with_reducible refine some_L ?_
    | with_reducible refine ite_L (fun _ => ?_) (fun _ => ?_)
    | with_reducible refine bind_L (fun _ => ?_)
    | with_reducible refine drop_L (by first | assumption | omega) ?_
    | with_reducible refine ite_I (by omega) (fun _ => ?_) (fun _ => ?_)
    | rfl
    | simp only [Bool.decide_eq_true]
    | exact Lo.refl _
    | (refine Lo.eq ?_; simp only [Bool.decide_eq_true]; done)
    | refine ite_L (fun _ => ?_) (fun _ => ?_)
theorem d88 : Sound Try.prog ⟨88, false, Q88⟩ := sound_of ⟨_, Try.func88, by kernel_rfl, by kernel_rfl⟩ fun k args hp Z K z h => by
  unfold Q88 at h
  split at h
  · obtain ⟨r, hr, hK⟩ := Option.bind_eq_some_iff.1 h
    exact ⟨_, hK, g88 k _ _ r hr⟩
  · cases h
def o63 (l0 : List S108) (r : (List (S90))) : Out Rw := ⟨[.c (.rw 1)], [.rows 0 (.e108 l0), .rows 2 (.e90 r)]⟩
def Q63 : Mean Rw := fun k a h Z K => match a, h with
  | [.w (.c (.rw 0))], [.rows 0 (.e108 l0)] => (laws_toInstrS.f k l0).bind fun r => K (o63 l0 r)
  | _, _ => none
def O63 : List (Cal Rw) := [⟨88, false, Q88⟩]
theorem O63_ok : ∀ c ∈ O63, Sound Try.prog c := by
  intro c hc
  simp only [O63, List.mem_cons, List.not_mem_nil, or_false] at hc
  rcases hc with rfl
  · exact d88
def C63_0 : Nat → St Rw → Option (Out Rw) := fun k st => match st with
  | ⟨23, 1, 2, [(0, .w (.c (.rw 0))), (3, .w (.c (.rw 1))), (4, .w (.c (.sc (.i .i64 x4))))], [(0, .rows 0 (.e108 l0)), (1, .rows 2 (.e90 y1))]⟩ => (laws_toInstrS.l0 k l0 y1 x4).bind fun r => some (o63 l0 r)
  | _ => none
def K63 : List (Cut Rw) := [⟨[false, true, false, true, true], [0, 3, 4], C63_0⟩]
theorem e63_0 (k : Nat) (x4 : Int) (l0 : List S108) (y1 : List S90) : Lo (seg Try.prog O63 K63 k (body Try.f63) (kEnd Try.prog Try.f63.results.toList) [false, true, false, true, true] ⟨23, 1, 2, [(0, .w (.c (.rw 0))), (3, .w (.c (.rw 1))), (4, .w (.c (.sc (.i .i64 x4))))], [(0, .rows 0 (.e108 l0)), (1, .rows 2 (.e90 y1))]⟩) ((laws_toInstrS.l0 (k + 1) l0 y1 x4).bind fun r => some (o63 l0 r)) :=
  Lo.of (b := (if x4 < (l0.length : Int) then (if 0 ≤ x4 then (if x4 < (l0.length : Int) then ((laws_toInstr.f (rd_T108 l0 x4).f0 (rd_T108 l0 x4).f1).bind fun r4 => (if 0 ≤ x4 then (if x4 < (y1.length : Int) then ((laws_toInstrS.l0 k l0 (y1.set x4.toNat (⟨r4.1, r4.2⟩ : S90)) (RowKit.wrap64 (x4 + 1))).bind fun r => some (o63 l0 r)) else none) else none)) else none) else none) else (some (o63 l0 y1)))) (by kernel_rfl) (by
    rw [laws_toInstrS.l0]
    repeat' first
    | with_reducible exact none_L
    | with_reducible refine let_L ?_
    | with_reducible refine some_L ?_
    | with_reducible refine ite_L (fun _ => ?_) (fun _ => ?_)
    | with_reducible refine bind_L (fun _ => ?_)
    | with_reducible refine drop_L (by first | assumption | omega) ?_
    | with_reducible refine ite_I (by omega) (fun _ => ?_) (fun _ => ?_)
    | rfl
    | simp only [Bool.decide_eq_true]
    | exact Lo.refl _
    | (refine Lo.eq ?_; simp only [Bool.decide_eq_true]; done)
    | refine ite_L (fun _ => ?_) (fun _ => ?_))
theorem h63_0 (k : Nat) (st : St Rw) (out : Out Rw) (h : C63_0 (k + 1) st = some out) : seg Try.prog O63 K63 k (body Try.f63) (kEnd Try.prog Try.f63.results.toList) [false, true, false, true, true] st = some out := by
  unfold C63_0 at h
  split at h
  · exact e63_0 _ _ _ _ out h
  · cases h
theorem z63_ok : ∀ c ∈ K63, ∀ st, c.f 0 st = none := by
  intro c hc st
  simp only [K63, List.mem_cons, List.not_mem_nil, or_false] at hc
  rcases hc with rfl
  · show C63_0 0 st = none; unfold C63_0; split <;> rfl
theorem h63_ok : ∀ c ∈ K63, ∀ k st out, c.f (k + 1) st = some out → seg Try.prog O63 K63 k (body Try.f63) (kEnd Try.prog Try.f63.results.toList) c.p st = some out := by
  intro c hc k st out h
  simp only [K63, List.mem_cons, List.not_mem_nil, or_false] at hc
  rcases hc with rfl
  · exact h63_0 k st out h
theorem g63 (k : Nat) (l0 : List (S108)) (r : (List (S90))) (h : laws_toInstrS.f k l0 = some r) : Good Try.prog 63 [.w (.c (.rw 0))] [.rows 0 (.e108 l0)] (o63 l0 r) := by
  refine fn_ok (k := k) O63_ok mixed Try.func63 (root := body Try.f63) (by kernel_rfl) z63_ok h63_ok ?_
  refine Lo.of (b := (if (l0.length : Int) = (l0.length : Int) then (if 0 ≤ (l0.length : Int) then (if (l0.length : Int) < 17592186044417 then ((laws_toInstrS.l0 k l0 (List.replicate ((l0.length : Int)).toNat z90) 0).bind fun r => some (o63 l0 r)) else none) else none) else none)) (c := (laws_toInstrS.f k l0).bind fun r => some (o63 l0 r)) (by kernel_rfl) ?_ _ (by rw [h]; rfl)
  · unfold laws_toInstrS.f
    repeat' first
    | with_reducible exact none_L
    | with_reducible refine let_L ?_
    | with_reducible refine some_L ?_
    | with_reducible refine ite_L (fun _ => ?_) (fun _ => ?_)
    | with_reducible refine bind_L (fun _ => ?_)
    | with_reducible refine drop_L (by first | assumption | omega) ?_
    | with_reducible refine ite_I (by omega) (fun _ => ?_) (fun _ => ?_)
    | rfl
    | simp only [Bool.decide_eq_true]
    | exact Lo.refl _
    | (refine Lo.eq ?_; simp only [Bool.decide_eq_true]; done)
    | refine ite_L (fun _ => ?_) (fun _ => ?_)
theorem d63 : Sound Try.prog ⟨63, false, Q63⟩ := sound_of ⟨_, Try.func63, by kernel_rfl, by kernel_rfl⟩ fun k args hp Z K z h => by
  unfold Q63 at h
  split at h
  · obtain ⟨r, hr, hK⟩ := Option.bind_eq_some_iff.1 h
    exact ⟨_, hK, g63 k _ r hr⟩
  · cases h
def o89 (r : Int × Int × Int) : Out Rw := ⟨[.ag [.sc (.i .i64 r.1), .sc (.i .i64 r.2.1), .sc (.i .i64 r.2.2)]], []⟩
def Q89 : Mean Rw := fun k a h Z K => match a, h with
  | [.w (.ag [.sc (.i .i64 a0_0), .sc (.i .i64 a0_1), .sc (.i .i64 a0_2)])], [] => (laws_toBal.f a0_0 a0_1 a0_2).bind fun r => K (o89 r)
  | _, _ => none
def O89 : List (Cal Rw) := []
theorem O89_ok : ∀ c ∈ O89, Sound Try.prog c := by
  intro c hc
  simp only [O89, List.mem_cons, List.not_mem_nil, or_false] at hc
def K89 : List (Cut Rw) := []
theorem z89_ok : ∀ c ∈ K89, ∀ st, c.f 0 st = none := by
  intro c hc st
  simp only [K89, List.mem_cons, List.not_mem_nil, or_false] at hc
theorem h89_ok : ∀ c ∈ K89, ∀ k st out, c.f (k + 1) st = some out → seg Try.prog O89 K89 k (body Try.f89) (kEnd Try.prog Try.f89.results.toList) c.p st = some out := by
  intro c hc k st out h
  simp only [K89, List.mem_cons, List.not_mem_nil, or_false] at hc
theorem g89 (k : Nat) (a0_0 : Int) (a0_1 : Int) (a0_2 : Int) (r : Int × Int × Int) (h : laws_toBal.f a0_0 a0_1 a0_2 = some r) : Good Try.prog 89 [.w (.ag [.sc (.i .i64 a0_0), .sc (.i .i64 a0_1), .sc (.i .i64 a0_2)])] [] (o89 r) := by
  refine fn_ok (k := k) O89_ok mixed Try.func89 (root := body Try.f89) (by kernel_rfl) z89_ok h89_ok ?_
  refine Lo.of (b := (some (o89 (a0_0, a0_1, a0_2)))) (c := (laws_toBal.f a0_0 a0_1 a0_2).bind fun r => some (o89 r)) (by kernel_rfl) ?_ _ (by rw [h]; rfl)
  · unfold laws_toBal.f
    repeat' first
    | with_reducible exact none_L
    | with_reducible refine let_L ?_
    | with_reducible refine some_L ?_
    | with_reducible refine ite_L (fun _ => ?_) (fun _ => ?_)
    | with_reducible refine bind_L (fun _ => ?_)
    | with_reducible refine drop_L (by first | assumption | omega) ?_
    | with_reducible refine ite_I (by omega) (fun _ => ?_) (fun _ => ?_)
    | rfl
    | simp only [Bool.decide_eq_true]
    | exact Lo.refl _
    | (refine Lo.eq ?_; simp only [Bool.decide_eq_true]; done)
    | refine ite_L (fun _ => ?_) (fun _ => ?_)
theorem d89 : Sound Try.prog ⟨89, false, Q89⟩ := sound_of ⟨_, Try.func89, by kernel_rfl, by kernel_rfl⟩ fun k args hp Z K z h => by
  unfold Q89 at h
  split at h
  · obtain ⟨r, hr, hK⟩ := Option.bind_eq_some_iff.1 h
    exact ⟨_, hK, g89 k _ _ _ r hr⟩
  · cases h
def o64 (l0 : List S110) (r : (List (S93))) : Out Rw := ⟨[.c (.rw 1)], [.rows 0 (.e110 l0), .rows 2 (.e93 r)]⟩
def Q64 : Mean Rw := fun k a h Z K => match a, h with
  | [.w (.c (.rw 0))], [.rows 0 (.e110 l0)] => (laws_toBalS.f k l0).bind fun r => K (o64 l0 r)
  | _, _ => none
def O64 : List (Cal Rw) := [⟨89, false, Q89⟩]
theorem O64_ok : ∀ c ∈ O64, Sound Try.prog c := by
  intro c hc
  simp only [O64, List.mem_cons, List.not_mem_nil, or_false] at hc
  rcases hc with rfl
  · exact d89
def C64_0 : Nat → St Rw → Option (Out Rw) := fun k st => match st with
  | ⟨23, 1, 2, [(0, .w (.c (.rw 0))), (3, .w (.c (.rw 1))), (4, .w (.c (.sc (.i .i64 x4))))], [(0, .rows 0 (.e110 l0)), (1, .rows 2 (.e93 y1))]⟩ => (laws_toBalS.l0 k l0 y1 x4).bind fun r => some (o64 l0 r)
  | _ => none
def K64 : List (Cut Rw) := [⟨[false, true, false, true, true], [0, 3, 4], C64_0⟩]
theorem e64_0 (k : Nat) (x4 : Int) (l0 : List S110) (y1 : List S93) : Lo (seg Try.prog O64 K64 k (body Try.f64) (kEnd Try.prog Try.f64.results.toList) [false, true, false, true, true] ⟨23, 1, 2, [(0, .w (.c (.rw 0))), (3, .w (.c (.rw 1))), (4, .w (.c (.sc (.i .i64 x4))))], [(0, .rows 0 (.e110 l0)), (1, .rows 2 (.e93 y1))]⟩) ((laws_toBalS.l0 (k + 1) l0 y1 x4).bind fun r => some (o64 l0 r)) :=
  Lo.of (b := (if x4 < (l0.length : Int) then (if 0 ≤ x4 then (if x4 < (l0.length : Int) then ((laws_toBal.f (rd_T110 l0 x4).f0 (rd_T110 l0 x4).f1 (rd_T110 l0 x4).f2).bind fun r4 => (if 0 ≤ x4 then (if x4 < (y1.length : Int) then ((laws_toBalS.l0 k l0 (y1.set x4.toNat (⟨r4.1, r4.2.1, r4.2.2⟩ : S93)) (RowKit.wrap64 (x4 + 1))).bind fun r => some (o64 l0 r)) else none) else none)) else none) else none) else (some (o64 l0 y1)))) (by kernel_rfl) (by
    rw [laws_toBalS.l0]
    repeat' first
    | with_reducible exact none_L
    | with_reducible refine let_L ?_
    | with_reducible refine some_L ?_
    | with_reducible refine ite_L (fun _ => ?_) (fun _ => ?_)
    | with_reducible refine bind_L (fun _ => ?_)
    | with_reducible refine drop_L (by first | assumption | omega) ?_
    | with_reducible refine ite_I (by omega) (fun _ => ?_) (fun _ => ?_)
    | rfl
    | simp only [Bool.decide_eq_true]
    | exact Lo.refl _
    | (refine Lo.eq ?_; simp only [Bool.decide_eq_true]; done)
    | refine ite_L (fun _ => ?_) (fun _ => ?_))
theorem h64_0 (k : Nat) (st : St Rw) (out : Out Rw) (h : C64_0 (k + 1) st = some out) : seg Try.prog O64 K64 k (body Try.f64) (kEnd Try.prog Try.f64.results.toList) [false, true, false, true, true] st = some out := by
  unfold C64_0 at h
  split at h
  · exact e64_0 _ _ _ _ out h
  · cases h
theorem z64_ok : ∀ c ∈ K64, ∀ st, c.f 0 st = none := by
  intro c hc st
  simp only [K64, List.mem_cons, List.not_mem_nil, or_false] at hc
  rcases hc with rfl
  · show C64_0 0 st = none; unfold C64_0; split <;> rfl
theorem h64_ok : ∀ c ∈ K64, ∀ k st out, c.f (k + 1) st = some out → seg Try.prog O64 K64 k (body Try.f64) (kEnd Try.prog Try.f64.results.toList) c.p st = some out := by
  intro c hc k st out h
  simp only [K64, List.mem_cons, List.not_mem_nil, or_false] at hc
  rcases hc with rfl
  · exact h64_0 k st out h
theorem g64 (k : Nat) (l0 : List (S110)) (r : (List (S93))) (h : laws_toBalS.f k l0 = some r) : Good Try.prog 64 [.w (.c (.rw 0))] [.rows 0 (.e110 l0)] (o64 l0 r) := by
  refine fn_ok (k := k) O64_ok mixed Try.func64 (root := body Try.f64) (by kernel_rfl) z64_ok h64_ok ?_
  refine Lo.of (b := (if (l0.length : Int) = (l0.length : Int) then (if 0 ≤ (l0.length : Int) then (if (l0.length : Int) < 11728124029611 then ((laws_toBalS.l0 k l0 (List.replicate ((l0.length : Int)).toNat z93) 0).bind fun r => some (o64 l0 r)) else none) else none) else none)) (c := (laws_toBalS.f k l0).bind fun r => some (o64 l0 r)) (by kernel_rfl) ?_ _ (by rw [h]; rfl)
  · unfold laws_toBalS.f
    repeat' first
    | with_reducible exact none_L
    | with_reducible refine let_L ?_
    | with_reducible refine some_L ?_
    | with_reducible refine ite_L (fun _ => ?_) (fun _ => ?_)
    | with_reducible refine bind_L (fun _ => ?_)
    | with_reducible refine drop_L (by first | assumption | omega) ?_
    | with_reducible refine ite_I (by omega) (fun _ => ?_) (fun _ => ?_)
    | rfl
    | simp only [Bool.decide_eq_true]
    | exact Lo.refl _
    | (refine Lo.eq ?_; simp only [Bool.decide_eq_true]; done)
    | refine ite_L (fun _ => ?_) (fun _ => ?_)
theorem d64 : Sound Try.prog ⟨64, false, Q64⟩ := sound_of ⟨_, Try.func64, by kernel_rfl, by kernel_rfl⟩ fun k args hp Z K z h => by
  unfold Q64 at h
  split at h
  · obtain ⟨r, hr, hK⟩ := Option.bind_eq_some_iff.1 h
    exact ⟨_, hK, g64 k _ r hr⟩
  · cases h
def o90 (r : Int × Int × Int × Int × Int) : Out Rw := ⟨[.ag [.sc (.i .i64 r.1), .sc (.i .i64 r.2.1), .sc (.i .i64 r.2.2.1), .sc (.i .i64 r.2.2.2.1), .sc (.i .i64 r.2.2.2.2)]], []⟩
def Q90 : Mean Rw := fun k a h Z K => match a, h with
  | [.w (.ag [.sc (.i .i64 a0_0), .sc (.i .i64 a0_1), .sc (.i .i64 a0_2), .sc (.i .i64 a0_3), .sc (.i .i64 a0_4)])], [] => (laws_toLot.f a0_0 a0_1 a0_2 a0_3 a0_4).bind fun r => K (o90 r)
  | _, _ => none
def O90 : List (Cal Rw) := []
theorem O90_ok : ∀ c ∈ O90, Sound Try.prog c := by
  intro c hc
  simp only [O90, List.mem_cons, List.not_mem_nil, or_false] at hc
def K90 : List (Cut Rw) := []
theorem z90_ok : ∀ c ∈ K90, ∀ st, c.f 0 st = none := by
  intro c hc st
  simp only [K90, List.mem_cons, List.not_mem_nil, or_false] at hc
theorem h90_ok : ∀ c ∈ K90, ∀ k st out, c.f (k + 1) st = some out → seg Try.prog O90 K90 k (body Try.f90) (kEnd Try.prog Try.f90.results.toList) c.p st = some out := by
  intro c hc k st out h
  simp only [K90, List.mem_cons, List.not_mem_nil, or_false] at hc
theorem g90 (k : Nat) (a0_0 : Int) (a0_1 : Int) (a0_2 : Int) (a0_3 : Int) (a0_4 : Int) (r : Int × Int × Int × Int × Int) (h : laws_toLot.f a0_0 a0_1 a0_2 a0_3 a0_4 = some r) : Good Try.prog 90 [.w (.ag [.sc (.i .i64 a0_0), .sc (.i .i64 a0_1), .sc (.i .i64 a0_2), .sc (.i .i64 a0_3), .sc (.i .i64 a0_4)])] [] (o90 r) := by
  refine fn_ok (k := k) O90_ok mixed Try.func90 (root := body Try.f90) (by kernel_rfl) z90_ok h90_ok ?_
  refine Lo.of (b := (some (o90 (a0_0, a0_1, a0_2, a0_3, a0_4)))) (c := (laws_toLot.f a0_0 a0_1 a0_2 a0_3 a0_4).bind fun r => some (o90 r)) (by kernel_rfl) ?_ _ (by rw [h]; rfl)
  · unfold laws_toLot.f
    repeat' first
    | with_reducible exact none_L
    | with_reducible refine let_L ?_
    | with_reducible refine some_L ?_
    | with_reducible refine ite_L (fun _ => ?_) (fun _ => ?_)
    | with_reducible refine bind_L (fun _ => ?_)
    | with_reducible refine drop_L (by first | assumption | omega) ?_
    | with_reducible refine ite_I (by omega) (fun _ => ?_) (fun _ => ?_)
    | rfl
    | simp only [Bool.decide_eq_true]
    | exact Lo.refl _
    | (refine Lo.eq ?_; simp only [Bool.decide_eq_true]; done)
    | refine ite_L (fun _ => ?_) (fun _ => ?_)
theorem d90 : Sound Try.prog ⟨90, false, Q90⟩ := sound_of ⟨_, Try.func90, by kernel_rfl, by kernel_rfl⟩ fun k args hp Z K z h => by
  unfold Q90 at h
  split at h
  · obtain ⟨r, hr, hK⟩ := Option.bind_eq_some_iff.1 h
    exact ⟨_, hK, g90 k _ _ _ _ _ r hr⟩
  · cases h
def o65 (l0 : List S112) (r : (List (S96))) : Out Rw := ⟨[.c (.rw 1)], [.rows 0 (.e112 l0), .rows 2 (.e96 r)]⟩
def Q65 : Mean Rw := fun k a h Z K => match a, h with
  | [.w (.c (.rw 0))], [.rows 0 (.e112 l0)] => (laws_toLotS.f k l0).bind fun r => K (o65 l0 r)
  | _, _ => none
def O65 : List (Cal Rw) := [⟨90, false, Q90⟩]
theorem O65_ok : ∀ c ∈ O65, Sound Try.prog c := by
  intro c hc
  simp only [O65, List.mem_cons, List.not_mem_nil, or_false] at hc
  rcases hc with rfl
  · exact d90
def C65_0 : Nat → St Rw → Option (Out Rw) := fun k st => match st with
  | ⟨23, 1, 2, [(0, .w (.c (.rw 0))), (3, .w (.c (.rw 1))), (4, .w (.c (.sc (.i .i64 x4))))], [(0, .rows 0 (.e112 l0)), (1, .rows 2 (.e96 y1))]⟩ => (laws_toLotS.l0 k l0 y1 x4).bind fun r => some (o65 l0 r)
  | _ => none
def K65 : List (Cut Rw) := [⟨[false, true, false, true, true], [0, 3, 4], C65_0⟩]
theorem e65_0 (k : Nat) (x4 : Int) (l0 : List S112) (y1 : List S96) : Lo (seg Try.prog O65 K65 k (body Try.f65) (kEnd Try.prog Try.f65.results.toList) [false, true, false, true, true] ⟨23, 1, 2, [(0, .w (.c (.rw 0))), (3, .w (.c (.rw 1))), (4, .w (.c (.sc (.i .i64 x4))))], [(0, .rows 0 (.e112 l0)), (1, .rows 2 (.e96 y1))]⟩) ((laws_toLotS.l0 (k + 1) l0 y1 x4).bind fun r => some (o65 l0 r)) :=
  Lo.of (b := (if x4 < (l0.length : Int) then (if 0 ≤ x4 then (if x4 < (l0.length : Int) then ((laws_toLot.f (rd_T112 l0 x4).f0 (rd_T112 l0 x4).f1 (rd_T112 l0 x4).f2 (rd_T112 l0 x4).f3 (rd_T112 l0 x4).f4).bind fun r4 => (if 0 ≤ x4 then (if x4 < (y1.length : Int) then ((laws_toLotS.l0 k l0 (y1.set x4.toNat (⟨r4.1, r4.2.1, r4.2.2.1, r4.2.2.2.1, r4.2.2.2.2⟩ : S96)) (RowKit.wrap64 (x4 + 1))).bind fun r => some (o65 l0 r)) else none) else none)) else none) else none) else (some (o65 l0 y1)))) (by kernel_rfl) (by
    rw [laws_toLotS.l0]
    repeat' first
    | with_reducible exact none_L
    | with_reducible refine let_L ?_
    | with_reducible refine some_L ?_
    | with_reducible refine ite_L (fun _ => ?_) (fun _ => ?_)
    | with_reducible refine bind_L (fun _ => ?_)
    | with_reducible refine drop_L (by first | assumption | omega) ?_
    | with_reducible refine ite_I (by omega) (fun _ => ?_) (fun _ => ?_)
    | rfl
    | simp only [Bool.decide_eq_true]
    | exact Lo.refl _
    | (refine Lo.eq ?_; simp only [Bool.decide_eq_true]; done)
    | refine ite_L (fun _ => ?_) (fun _ => ?_))
theorem h65_0 (k : Nat) (st : St Rw) (out : Out Rw) (h : C65_0 (k + 1) st = some out) : seg Try.prog O65 K65 k (body Try.f65) (kEnd Try.prog Try.f65.results.toList) [false, true, false, true, true] st = some out := by
  unfold C65_0 at h
  split at h
  · exact e65_0 _ _ _ _ out h
  · cases h
theorem z65_ok : ∀ c ∈ K65, ∀ st, c.f 0 st = none := by
  intro c hc st
  simp only [K65, List.mem_cons, List.not_mem_nil, or_false] at hc
  rcases hc with rfl
  · show C65_0 0 st = none; unfold C65_0; split <;> rfl
theorem h65_ok : ∀ c ∈ K65, ∀ k st out, c.f (k + 1) st = some out → seg Try.prog O65 K65 k (body Try.f65) (kEnd Try.prog Try.f65.results.toList) c.p st = some out := by
  intro c hc k st out h
  simp only [K65, List.mem_cons, List.not_mem_nil, or_false] at hc
  rcases hc with rfl
  · exact h65_0 k st out h
theorem g65 (k : Nat) (l0 : List (S112)) (r : (List (S96))) (h : laws_toLotS.f k l0 = some r) : Good Try.prog 65 [.w (.c (.rw 0))] [.rows 0 (.e112 l0)] (o65 l0 r) := by
  refine fn_ok (k := k) O65_ok mixed Try.func65 (root := body Try.f65) (by kernel_rfl) z65_ok h65_ok ?_
  refine Lo.of (b := (if (l0.length : Int) = (l0.length : Int) then (if 0 ≤ (l0.length : Int) then (if (l0.length : Int) < 7036874417767 then ((laws_toLotS.l0 k l0 (List.replicate ((l0.length : Int)).toNat z96) 0).bind fun r => some (o65 l0 r)) else none) else none) else none)) (c := (laws_toLotS.f k l0).bind fun r => some (o65 l0 r)) (by kernel_rfl) ?_ _ (by rw [h]; rfl)
  · unfold laws_toLotS.f
    repeat' first
    | with_reducible exact none_L
    | with_reducible refine let_L ?_
    | with_reducible refine some_L ?_
    | with_reducible refine ite_L (fun _ => ?_) (fun _ => ?_)
    | with_reducible refine bind_L (fun _ => ?_)
    | with_reducible refine drop_L (by first | assumption | omega) ?_
    | with_reducible refine ite_I (by omega) (fun _ => ?_) (fun _ => ?_)
    | rfl
    | simp only [Bool.decide_eq_true]
    | exact Lo.refl _
    | (refine Lo.eq ?_; simp only [Bool.decide_eq_true]; done)
    | refine ite_L (fun _ => ?_) (fun _ => ?_)
theorem d65 : Sound Try.prog ⟨65, false, Q65⟩ := sound_of ⟨_, Try.func65, by kernel_rfl, by kernel_rfl⟩ fun k args hp Z K z h => by
  unfold Q65 at h
  split at h
  · obtain ⟨r, hr, hK⟩ := Option.bind_eq_some_iff.1 h
    exact ⟨_, hK, g65 k _ r hr⟩
  · cases h
def o20 (l0_0 : List S106) (l0_1 : List S108) (l0_2 : List S110) (l0_3 : List S112) (l0_4 : List S64) (r : (List (S88)) × (List (S90)) × (List (S93)) × (List (S96)) × (List (S50)) × Int) : Out Rw := ⟨[.ag [.rw 5, .rw 6, .rw 7, .rw 8, .rw 9, .sc (.i .i64 r.2.2.2.2.2)]], [.rows 0 (.e106 l0_0), .rows 0 (.e108 l0_1), .rows 0 (.e110 l0_2), .rows 0 (.e112 l0_3), .rows 0 (.e64 l0_4), .rows 2 (.e88 r.1), .rows 2 (.e90 r.2.1), .rows 2 (.e93 r.2.2.1), .rows 2 (.e96 r.2.2.2.1), .rows 2 (.e50 r.2.2.2.2.1)]⟩
def Q20 : Mean Rw := fun k a h Z K => match a, h with
  | [.w (.ag [.rw 0, .rw 1, .rw 2, .rw 3, .rw 4, .sc (.i .i64 a0_5)])], [.rows 0 (.e106 l0_0), .rows 0 (.e108 l0_1), .rows 0 (.e110 l0_2), .rows 0 (.e112 l0_3), .rows 0 (.e64 l0_4)] => (laws_toBooks.f k l0_0 l0_1 l0_2 l0_3 l0_4 a0_5).bind fun r => K (o20 l0_0 l0_1 l0_2 l0_3 l0_4 r)
  | _, _ => none
def O20 : List (Cal Rw) := [⟨62, false, Q62⟩, ⟨63, false, Q63⟩, ⟨64, false, Q64⟩, ⟨65, false, Q65⟩, ⟨10, false, Q10⟩]
theorem O20_ok : ∀ c ∈ O20, Sound Try.prog c := by
  intro c hc
  simp only [O20, List.mem_cons, List.not_mem_nil, or_false] at hc
  rcases hc with rfl | rfl | rfl | rfl | rfl
  · exact d62
  · exact d63
  · exact d64
  · exact d65
  · exact d10
def K20 : List (Cut Rw) := []
theorem z20_ok : ∀ c ∈ K20, ∀ st, c.f 0 st = none := by
  intro c hc st
  simp only [K20, List.mem_cons, List.not_mem_nil, or_false] at hc
theorem h20_ok : ∀ c ∈ K20, ∀ k st out, c.f (k + 1) st = some out → seg Try.prog O20 K20 k (body Try.f20) (kEnd Try.prog Try.f20.results.toList) c.p st = some out := by
  intro c hc k st out h
  simp only [K20, List.mem_cons, List.not_mem_nil, or_false] at hc
theorem g20 (k : Nat) (l0_0 : List (S106)) (l0_1 : List (S108)) (l0_2 : List (S110)) (l0_3 : List (S112)) (l0_4 : List (S64)) (a0_5 : Int) (r : (List (S88)) × (List (S90)) × (List (S93)) × (List (S96)) × (List (S50)) × Int) (h : laws_toBooks.f k l0_0 l0_1 l0_2 l0_3 l0_4 a0_5 = some r) : Good Try.prog 20 [.w (.ag [.rw 0, .rw 1, .rw 2, .rw 3, .rw 4, .sc (.i .i64 a0_5)])] [.rows 0 (.e106 l0_0), .rows 0 (.e108 l0_1), .rows 0 (.e110 l0_2), .rows 0 (.e112 l0_3), .rows 0 (.e64 l0_4)] (o20 l0_0 l0_1 l0_2 l0_3 l0_4 r) := by
  refine fn_ok (k := k) O20_ok mixed Try.func20 (root := body Try.f20) (by kernel_rfl) z20_ok h20_ok ?_
  refine Lo.of (b := ((laws_toAccountS.f k l0_0).bind fun r7 => ((laws_toInstrS.f k l0_1).bind fun r8 => ((laws_toBalS.f k l0_2).bind fun r9 => ((laws_toLotS.f k l0_3).bind fun r10 => ((laws_toTradeS.f k l0_4).bind fun r11 => (some (o20 l0_0 l0_1 l0_2 l0_3 l0_4 (r7, r8, r9, r10, r11, a0_5))))))))) (c := (laws_toBooks.f k l0_0 l0_1 l0_2 l0_3 l0_4 a0_5).bind fun r => some (o20 l0_0 l0_1 l0_2 l0_3 l0_4 r)) (by kernel_rfl) ?_ _ (by rw [h]; rfl)
  · unfold laws_toBooks.f
    repeat' first
    | with_reducible exact none_L
    | with_reducible refine let_L ?_
    | with_reducible refine some_L ?_
    | with_reducible refine ite_L (fun _ => ?_) (fun _ => ?_)
    | with_reducible refine bind_L (fun _ => ?_)
    | with_reducible refine drop_L (by first | assumption | omega) ?_
    | with_reducible refine ite_I (by omega) (fun _ => ?_) (fun _ => ?_)
    | rfl
    | simp only [Bool.decide_eq_true]
    | exact Lo.refl _
    | (refine Lo.eq ?_; simp only [Bool.decide_eq_true]; done)
    | refine ite_L (fun _ => ?_) (fun _ => ?_)
theorem d20 : Sound Try.prog ⟨20, false, Q20⟩ := sound_of ⟨_, Try.func20, by kernel_rfl, by kernel_rfl⟩ fun k args hp Z K z h => by
  unfold Q20 at h
  split at h
  · obtain ⟨r, hr, hK⟩ := Option.bind_eq_some_iff.1 h
    exact ⟨_, hK, g20 k _ _ _ _ _ _ r hr⟩
  · cases h
def o35 (r : Bool) : Out Rw := ⟨[.c (.sc (.b r))], []⟩
def Q35 : Mean Rw := fun k a h Z K => match a, h with
  | [.w (.c (.sc (.i .i64 a0))), .w (.c (.sc (.i .i64 a1))), .w (.c (.sc (.i .i64 a2)))], [] => (impl_in.f a0 a1 a2).bind fun r => K (o35 r)
  | _, _ => none
def O35 : List (Cal Rw) := []
theorem O35_ok : ∀ c ∈ O35, Sound Try.prog c := by
  intro c hc
  simp only [O35, List.mem_cons, List.not_mem_nil, or_false] at hc
def K35 : List (Cut Rw) := []
theorem z35_ok : ∀ c ∈ K35, ∀ st, c.f 0 st = none := by
  intro c hc st
  simp only [K35, List.mem_cons, List.not_mem_nil, or_false] at hc
theorem h35_ok : ∀ c ∈ K35, ∀ k st out, c.f (k + 1) st = some out → seg Try.prog O35 K35 k (body Try.f35) (kEnd Try.prog Try.f35.results.toList) c.p st = some out := by
  intro c hc k st out h
  simp only [K35, List.mem_cons, List.not_mem_nil, or_false] at hc
theorem g35 (k : Nat) (a0 : Int) (a1 : Int) (a2 : Int) (r : Bool) (h : impl_in.f a0 a1 a2 = some r) : Good Try.prog 35 [.w (.c (.sc (.i .i64 a0))), .w (.c (.sc (.i .i64 a1))), .w (.c (.sc (.i .i64 a2)))] [] (o35 r) := by
  refine fn_ok (k := k) O35_ok mixed Try.func35 (root := body Try.f35) (by kernel_rfl) z35_ok h35_ok ?_
  refine Lo.of (b := (if a0 ≥ a1 then (some (o35 (decide (a0 ≤ a2)))) else (some (o35 false)))) (c := (impl_in.f a0 a1 a2).bind fun r => some (o35 r)) (by kernel_rfl) ?_ _ (by rw [h]; rfl)
  · unfold impl_in.f
    repeat' first
    | with_reducible exact none_L
    | with_reducible refine let_L ?_
    | with_reducible refine some_L ?_
    | with_reducible refine ite_L (fun _ => ?_) (fun _ => ?_)
    | with_reducible refine bind_L (fun _ => ?_)
    | with_reducible refine drop_L (by first | assumption | omega) ?_
    | with_reducible refine ite_I (by omega) (fun _ => ?_) (fun _ => ?_)
    | rfl
    | simp only [Bool.decide_eq_true]
    | exact Lo.refl _
    | (refine Lo.eq ?_; simp only [Bool.decide_eq_true]; done)
    | refine ite_L (fun _ => ?_) (fun _ => ?_)
theorem d35 : Sound Try.prog ⟨35, false, Q35⟩ := sound_of ⟨_, Try.func35, by kernel_rfl, by kernel_rfl⟩ fun k args hp Z K z h => by
  unfold Q35 at h
  split at h
  · obtain ⟨r, hr, hK⟩ := Option.bind_eq_some_iff.1 h
    exact ⟨_, hK, g35 k _ _ _ r hr⟩
  · cases h
def o34 (r : Bool) : Out Rw := ⟨[.c (.sc (.b r))], []⟩
def Q34 : Mean Rw := fun k a h Z K => match a, h with
  | [.w (.c (.sc (.i .i64 a0)))], [] => (impl_isNo.f a0).bind fun r => K (o34 r)
  | _, _ => none
def O34 : List (Cal Rw) := [⟨35, false, Q35⟩]
theorem O34_ok : ∀ c ∈ O34, Sound Try.prog c := by
  intro c hc
  simp only [O34, List.mem_cons, List.not_mem_nil, or_false] at hc
  rcases hc with rfl
  · exact d35
def K34 : List (Cut Rw) := []
theorem z34_ok : ∀ c ∈ K34, ∀ st, c.f 0 st = none := by
  intro c hc st
  simp only [K34, List.mem_cons, List.not_mem_nil, or_false] at hc
theorem h34_ok : ∀ c ∈ K34, ∀ k st out, c.f (k + 1) st = some out → seg Try.prog O34 K34 k (body Try.f34) (kEnd Try.prog Try.f34.results.toList) c.p st = some out := by
  intro c hc k st out h
  simp only [K34, List.mem_cons, List.not_mem_nil, or_false] at hc
theorem g34 (k : Nat) (a0 : Int) (r : Bool) (h : impl_isNo.f a0 = some r) : Good Try.prog 34 [.w (.c (.sc (.i .i64 a0)))] [] (o34 r) := by
  refine fn_ok (k := k) O34_ok mixed Try.func34 (root := body Try.f34) (by kernel_rfl) z34_ok h34_ok ?_
  refine Lo.of (b := ((impl_in.f a0 1 1000).bind fun r2 => (some (o34 r2)))) (c := (impl_isNo.f a0).bind fun r => some (o34 r)) (by kernel_rfl) ?_ _ (by rw [h]; rfl)
  · unfold impl_isNo.f
    repeat' first
    | with_reducible exact none_L
    | with_reducible refine let_L ?_
    | with_reducible refine some_L ?_
    | with_reducible refine ite_L (fun _ => ?_) (fun _ => ?_)
    | with_reducible refine bind_L (fun _ => ?_)
    | with_reducible refine drop_L (by first | assumption | omega) ?_
    | with_reducible refine ite_I (by omega) (fun _ => ?_) (fun _ => ?_)
    | rfl
    | simp only [Bool.decide_eq_true]
    | exact Lo.refl _
    | (refine Lo.eq ?_; simp only [Bool.decide_eq_true]; done)
    | refine ite_L (fun _ => ?_) (fun _ => ?_)
theorem d34 : Sound Try.prog ⟨34, false, Q34⟩ := sound_of ⟨_, Try.func34, by kernel_rfl, by kernel_rfl⟩ fun k args hp Z K z h => by
  unfold Q34 at h
  split at h
  · obtain ⟨r, hr, hK⟩ := Option.bind_eq_some_iff.1 h
    exact ⟨_, hK, g34 k _ r hr⟩
  · cases h
def o11 (l0 : List S50) (r : Bool) : Out Rw := ⟨[.c (.sc (.b r))], [.rows 0 (.e50 l0)]⟩
def Q11 : Mean Rw := fun k a h Z K => match a, h with
  | [.w (.c (.rw 0))], [.rows 0 (.e50 l0)] => (impl_TradesOk.f k l0).bind fun r => K (o11 l0 r)
  | _, _ => none
def O11 : List (Cal Rw) := [⟨34, false, Q34⟩, ⟨35, false, Q35⟩]
theorem O11_ok : ∀ c ∈ O11, Sound Try.prog c := by
  intro c hc
  simp only [O11, List.mem_cons, List.not_mem_nil, or_false] at hc
  rcases hc with rfl | rfl
  · exact d34
  · exact d35
def C11_0 : Nat → St Rw → Option (Out Rw) := fun k st => match st with
  | ⟨82, 1, 1, [(0, .w (.c (.rw 0))), (5, .w (.c (.rw 0))), (6, .w (.c (.sc (.i .i64 x6)))), (7, .w (.c (.sc (.i .i64 x7))))], [(0, .rows 0 (.e50 l0))]⟩ => (impl_TradesOk.l0 k l0 l0 x6 x7).bind fun r => some (o11 l0 r)
  | _ => none
def C11_1 : Nat → St Rw → Option (Out Rw) := fun k st => match st with
  | ⟨82, 1, 2, [(0, .w (.c (.rw 0))), (3, .w (.c (.sc (.i .i64 x3)))), (4, .pt 1 0), (5, .w (.c (.rw 0))), (6, .w (.c (.sc (.i .i64 x6)))), (7, .w (.c (.sc (.i .i64 x7)))), (46, .w (.c (.sc (.b x46))))], [(0, .rows 0 (.e50 l0)), (1, .box 50 [.sc (.i .i64 b1_0), .sc (.i .i64 b1_1), .sc (.i .i64 b1_2), .sc (.i .i64 b1_3), .sc (.i .i64 b1_4), .sc (.i .i64 b1_5), .sc (.i .i64 b1_6), .sc (.i .i64 b1_7)])]⟩ => (impl_TradesOk.j1 k l0 x3 l0 x6 x7 x46 b1_0 b1_1 b1_2 b1_3 b1_4 b1_5 b1_6 b1_7).bind fun r => some (o11 l0 r)
  | _ => none
def K11 : List (Cut Rw) := [⟨[false, true, false, true], [0, 5, 6, 7], C11_0⟩, ⟨[true, false, true, false, false, true, true, false, false, true, false, true], [0, 3, 4, 5, 6, 7, 46], C11_1⟩]
theorem e11_0 (k : Nat) (x6 : Int) (x7 : Int) (l0 : List S50) : Lo (seg Try.prog O11 K11 k (body Try.f11) (kEnd Try.prog Try.f11.results.toList) [false, true, false, true] ⟨82, 1, 1, [(0, .w (.c (.rw 0))), (5, .w (.c (.rw 0))), (6, .w (.c (.sc (.i .i64 x6)))), (7, .w (.c (.sc (.i .i64 x7))))], [(0, .rows 0 (.e50 l0))]⟩) ((impl_TradesOk.l0 (k + 1) l0 l0 x6 x7).bind fun r => some (o11 l0 r)) :=
  Lo.of (b := (if x7 < x6 then (if 0 ≤ x7 then (if x7 < (l0.length : Int) then ((impl_isNo.f (rd_T50 l0 x7).f0).bind fun r4 => (if r4 = true then ((impl_isNo.f (rd_T50 l0 x7).f1).bind fun r5 => (if r5 = true then ((impl_isNo.f (rd_T50 l0 x7).f2).bind fun r6 => (if r6 = true then ((impl_isNo.f (rd_T50 l0 x7).f3).bind fun r7 => (if r7 = true then ((impl_isNo.f (rd_T50 l0 x7).f5).bind fun r8 => (if r8 = true then ((impl_TradesOk.j1 k l0 x7 l0 x6 x7 (decide ((rd_T50 l0 x7).f1 = (rd_T50 l0 x7).f2)) ((rd_T50 l0 x7).f0) ((rd_T50 l0 x7).f1) ((rd_T50 l0 x7).f2) ((rd_T50 l0 x7).f3) ((rd_T50 l0 x7).f4) ((rd_T50 l0 x7).f5) ((rd_T50 l0 x7).f6) ((rd_T50 l0 x7).f7)).bind fun r => some (o11 l0 r)) else ((impl_TradesOk.j1 k l0 x7 l0 x6 x7 true ((rd_T50 l0 x7).f0) ((rd_T50 l0 x7).f1) ((rd_T50 l0 x7).f2) ((rd_T50 l0 x7).f3) ((rd_T50 l0 x7).f4) ((rd_T50 l0 x7).f5) ((rd_T50 l0 x7).f6) ((rd_T50 l0 x7).f7)).bind fun r => some (o11 l0 r)))) else ((impl_TradesOk.j1 k l0 x7 l0 x6 x7 true ((rd_T50 l0 x7).f0) ((rd_T50 l0 x7).f1) ((rd_T50 l0 x7).f2) ((rd_T50 l0 x7).f3) ((rd_T50 l0 x7).f4) ((rd_T50 l0 x7).f5) ((rd_T50 l0 x7).f6) ((rd_T50 l0 x7).f7)).bind fun r => some (o11 l0 r)))) else ((impl_TradesOk.j1 k l0 x7 l0 x6 x7 true ((rd_T50 l0 x7).f0) ((rd_T50 l0 x7).f1) ((rd_T50 l0 x7).f2) ((rd_T50 l0 x7).f3) ((rd_T50 l0 x7).f4) ((rd_T50 l0 x7).f5) ((rd_T50 l0 x7).f6) ((rd_T50 l0 x7).f7)).bind fun r => some (o11 l0 r)))) else ((impl_TradesOk.j1 k l0 x7 l0 x6 x7 true ((rd_T50 l0 x7).f0) ((rd_T50 l0 x7).f1) ((rd_T50 l0 x7).f2) ((rd_T50 l0 x7).f3) ((rd_T50 l0 x7).f4) ((rd_T50 l0 x7).f5) ((rd_T50 l0 x7).f6) ((rd_T50 l0 x7).f7)).bind fun r => some (o11 l0 r)))) else ((impl_TradesOk.j1 k l0 x7 l0 x6 x7 true ((rd_T50 l0 x7).f0) ((rd_T50 l0 x7).f1) ((rd_T50 l0 x7).f2) ((rd_T50 l0 x7).f3) ((rd_T50 l0 x7).f4) ((rd_T50 l0 x7).f5) ((rd_T50 l0 x7).f6) ((rd_T50 l0 x7).f7)).bind fun r => some (o11 l0 r)))) else none) else none) else (some (o11 l0 (decide ((l0.length : Int) ≤ 30)))))) (by kernel_rfl) (by
    rw [impl_TradesOk.l0]
    repeat' first
    | with_reducible exact none_L
    | with_reducible refine let_L ?_
    | with_reducible refine some_L ?_
    | with_reducible refine ite_L (fun _ => ?_) (fun _ => ?_)
    | with_reducible refine bind_L (fun _ => ?_)
    | with_reducible refine drop_L (by first | assumption | omega) ?_
    | with_reducible refine ite_I (by omega) (fun _ => ?_) (fun _ => ?_)
    | rfl
    | simp only [Bool.decide_eq_true]
    | exact Lo.refl _
    | (refine Lo.eq ?_; simp only [Bool.decide_eq_true]; done)
    | refine ite_L (fun _ => ?_) (fun _ => ?_))
theorem h11_0 (k : Nat) (st : St Rw) (out : Out Rw) (h : C11_0 (k + 1) st = some out) : seg Try.prog O11 K11 k (body Try.f11) (kEnd Try.prog Try.f11.results.toList) [false, true, false, true] st = some out := by
  unfold C11_0 at h
  split at h
  · exact e11_0 _ _ _ _ out h
  · cases h
theorem e11_1 (k : Nat) (x3 : Int) (x6 : Int) (x7 : Int) (x46 : Bool) (l0 : List S50) (b1_0 : Int) (b1_1 : Int) (b1_2 : Int) (b1_3 : Int) (b1_4 : Int) (b1_5 : Int) (b1_6 : Int) (b1_7 : Int) : Lo (seg Try.prog O11 K11 k (body Try.f11) (kEnd Try.prog Try.f11.results.toList) [true, false, true, false, false, true, true, false, false, true, false, true] ⟨82, 1, 2, [(0, .w (.c (.rw 0))), (3, .w (.c (.sc (.i .i64 x3)))), (4, .pt 1 0), (5, .w (.c (.rw 0))), (6, .w (.c (.sc (.i .i64 x6)))), (7, .w (.c (.sc (.i .i64 x7)))), (46, .w (.c (.sc (.b x46))))], [(0, .rows 0 (.e50 l0)), (1, .box 50 [.sc (.i .i64 b1_0), .sc (.i .i64 b1_1), .sc (.i .i64 b1_2), .sc (.i .i64 b1_3), .sc (.i .i64 b1_4), .sc (.i .i64 b1_5), .sc (.i .i64 b1_6), .sc (.i .i64 b1_7)])]⟩) ((impl_TradesOk.j1 (k + 1) l0 x3 l0 x6 x7 x46 b1_0 b1_1 b1_2 b1_3 b1_4 b1_5 b1_6 b1_7).bind fun r => some (o11 l0 r)) :=
  Lo.of (b := (if x46 = true then (some (o11 l0 false)) else ((impl_in.f b1_4 1 1000000000000000).bind fun r14 => (if r14 = true then ((impl_in.f b1_6 0 1000000000000000).bind fun r15 => (if r15 = true then ((impl_in.f b1_7 1 3).bind fun r16 => (if r16 = true then (if x3 > 0 then (if 0 ≤ RowKit.wrap64 (x3 - 1) then (if RowKit.wrap64 (x3 - 1) < (l0.length : Int) then (if (rd_T50 l0 (RowKit.wrap64 (x3 - 1))).f0 ≥ b1_0 then (some (o11 l0 false)) else ((impl_TradesOk.l0 k l0 l0 x6 (RowKit.wrap64 (x7 + 1))).bind fun r => some (o11 l0 r))) else none) else none) else ((impl_TradesOk.l0 k l0 l0 x6 (RowKit.wrap64 (x7 + 1))).bind fun r => some (o11 l0 r))) else (some (o11 l0 false)))) else (some (o11 l0 false)))) else (some (o11 l0 false)))))) (by kernel_rfl) (by
    rw [impl_TradesOk.j1]
    repeat' first
    | with_reducible exact none_L
    | with_reducible refine let_L ?_
    | with_reducible refine some_L ?_
    | with_reducible refine ite_L (fun _ => ?_) (fun _ => ?_)
    | with_reducible refine bind_L (fun _ => ?_)
    | with_reducible refine drop_L (by first | assumption | omega) ?_
    | with_reducible refine ite_I (by omega) (fun _ => ?_) (fun _ => ?_)
    | rfl
    | simp only [Bool.decide_eq_true]
    | exact Lo.refl _
    | (refine Lo.eq ?_; simp only [Bool.decide_eq_true]; done)
    | refine ite_L (fun _ => ?_) (fun _ => ?_))
theorem h11_1 (k : Nat) (st : St Rw) (out : Out Rw) (h : C11_1 (k + 1) st = some out) : seg Try.prog O11 K11 k (body Try.f11) (kEnd Try.prog Try.f11.results.toList) [true, false, true, false, false, true, true, false, false, true, false, true] st = some out := by
  unfold C11_1 at h
  split at h
  · exact e11_1 _ _ _ _ _ _ _ _ _ _ _ _ _ _ out h
  · cases h
theorem z11_ok : ∀ c ∈ K11, ∀ st, c.f 0 st = none := by
  intro c hc st
  simp only [K11, List.mem_cons, List.not_mem_nil, or_false] at hc
  rcases hc with rfl | rfl
  · show C11_0 0 st = none; unfold C11_0; split <;> rfl
  · show C11_1 0 st = none; unfold C11_1; split <;> rfl
theorem h11_ok : ∀ c ∈ K11, ∀ k st out, c.f (k + 1) st = some out → seg Try.prog O11 K11 k (body Try.f11) (kEnd Try.prog Try.f11.results.toList) c.p st = some out := by
  intro c hc k st out h
  simp only [K11, List.mem_cons, List.not_mem_nil, or_false] at hc
  rcases hc with rfl | rfl
  · exact h11_0 k st out h
  · exact h11_1 k st out h
theorem g11 (k : Nat) (l0 : List (S50)) (r : Bool) (h : impl_TradesOk.f k l0 = some r) : Good Try.prog 11 [.w (.c (.rw 0))] [.rows 0 (.e50 l0)] (o11 l0 r) := by
  refine fn_ok (k := k) O11_ok mixed Try.func11 (root := body Try.f11) (by kernel_rfl) z11_ok h11_ok ?_
  refine Lo.of (b := ((impl_TradesOk.l0 k l0 l0 ((l0.length : Int)) 0).bind fun r => some (o11 l0 r))) (c := (impl_TradesOk.f k l0).bind fun r => some (o11 l0 r)) (by kernel_rfl) ?_ _ (by rw [h]; rfl)
  · unfold impl_TradesOk.f
    repeat' first
    | with_reducible exact none_L
    | with_reducible refine let_L ?_
    | with_reducible refine some_L ?_
    | with_reducible refine ite_L (fun _ => ?_) (fun _ => ?_)
    | with_reducible refine bind_L (fun _ => ?_)
    | with_reducible refine drop_L (by first | assumption | omega) ?_
    | with_reducible refine ite_I (by omega) (fun _ => ?_) (fun _ => ?_)
    | rfl
    | simp only [Bool.decide_eq_true]
    | exact Lo.refl _
    | (refine Lo.eq ?_; simp only [Bool.decide_eq_true]; done)
    | refine ite_L (fun _ => ?_) (fun _ => ?_)
theorem d11 : Sound Try.prog ⟨11, false, Q11⟩ := sound_of ⟨_, Try.func11, by kernel_rfl, by kernel_rfl⟩ fun k args hp Z K z h => by
  unfold Q11 at h
  split at h
  · obtain ⟨r, hr, hK⟩ := Option.bind_eq_some_iff.1 h
    exact ⟨_, hK, g11 k _ r hr⟩
  · cases h
def o66 (l0 : List S88) (r : Bool) : Out Rw := ⟨[.c (.sc (.b r))], [.rows 0 (.e88 l0)]⟩
def Q66 : Mean Rw := fun k a h Z K => match a, h with
  | [.w (.c (.rw 0))], [.rows 0 (.e88 l0)] => (impl_AccountsOk.f k l0).bind fun r => K (o66 l0 r)
  | _, _ => none
def O66 : List (Cal Rw) := [⟨34, false, Q34⟩, ⟨35, false, Q35⟩]
theorem O66_ok : ∀ c ∈ O66, Sound Try.prog c := by
  intro c hc
  simp only [O66, List.mem_cons, List.not_mem_nil, or_false] at hc
  rcases hc with rfl | rfl
  · exact d34
  · exact d35
def C66_0 : Nat → St Rw → Option (Out Rw) := fun k st => match st with
  | ⟨41, 1, 1, [(0, .w (.c (.rw 0))), (5, .w (.c (.rw 0))), (6, .w (.c (.sc (.i .i64 x6)))), (7, .w (.c (.sc (.i .i64 x7))))], [(0, .rows 0 (.e88 l0))]⟩ => (impl_AccountsOk.l0 k l0 l0 x6 x7).bind fun r => some (o66 l0 r)
  | _ => none
def K66 : List (Cut Rw) := [⟨[false, true, false, true], [0, 5, 6, 7], C66_0⟩]
theorem e66_0 (k : Nat) (x6 : Int) (x7 : Int) (l0 : List S88) : Lo (seg Try.prog O66 K66 k (body Try.f66) (kEnd Try.prog Try.f66.results.toList) [false, true, false, true] ⟨41, 1, 1, [(0, .w (.c (.rw 0))), (5, .w (.c (.rw 0))), (6, .w (.c (.sc (.i .i64 x6)))), (7, .w (.c (.sc (.i .i64 x7))))], [(0, .rows 0 (.e88 l0))]⟩) ((impl_AccountsOk.l0 (k + 1) l0 l0 x6 x7).bind fun r => some (o66 l0 r)) :=
  Lo.of (b := (if x7 < x6 then (if 0 ≤ x7 then (if x7 < (l0.length : Int) then ((impl_isNo.f (rd_T88 l0 x7).f0).bind fun r4 => (if r4 = true then ((impl_in.f (rd_T88 l0 x7).f1 1 4).bind fun r5 => (if r5 = true then (if x7 > 0 then (if 0 ≤ RowKit.wrap64 (x7 - 1) then (if RowKit.wrap64 (x7 - 1) < (l0.length : Int) then (if (rd_T88 l0 (RowKit.wrap64 (x7 - 1))).f0 ≥ (rd_T88 l0 x7).f0 then (some (o66 l0 false)) else ((impl_AccountsOk.l0 k l0 l0 x6 (RowKit.wrap64 (x7 + 1))).bind fun r => some (o66 l0 r))) else none) else none) else ((impl_AccountsOk.l0 k l0 l0 x6 (RowKit.wrap64 (x7 + 1))).bind fun r => some (o66 l0 r))) else (some (o66 l0 false)))) else (some (o66 l0 false)))) else none) else none) else (some (o66 l0 (decide ((l0.length : Int) ≤ 20)))))) (by kernel_rfl) (by
    rw [impl_AccountsOk.l0]
    repeat' first
    | with_reducible exact none_L
    | with_reducible refine let_L ?_
    | with_reducible refine some_L ?_
    | with_reducible refine ite_L (fun _ => ?_) (fun _ => ?_)
    | with_reducible refine bind_L (fun _ => ?_)
    | with_reducible refine drop_L (by first | assumption | omega) ?_
    | with_reducible refine ite_I (by omega) (fun _ => ?_) (fun _ => ?_)
    | rfl
    | simp only [Bool.decide_eq_true]
    | exact Lo.refl _
    | (refine Lo.eq ?_; simp only [Bool.decide_eq_true]; done)
    | refine ite_L (fun _ => ?_) (fun _ => ?_))
theorem h66_0 (k : Nat) (st : St Rw) (out : Out Rw) (h : C66_0 (k + 1) st = some out) : seg Try.prog O66 K66 k (body Try.f66) (kEnd Try.prog Try.f66.results.toList) [false, true, false, true] st = some out := by
  unfold C66_0 at h
  split at h
  · exact e66_0 _ _ _ _ out h
  · cases h
theorem z66_ok : ∀ c ∈ K66, ∀ st, c.f 0 st = none := by
  intro c hc st
  simp only [K66, List.mem_cons, List.not_mem_nil, or_false] at hc
  rcases hc with rfl
  · show C66_0 0 st = none; unfold C66_0; split <;> rfl
theorem h66_ok : ∀ c ∈ K66, ∀ k st out, c.f (k + 1) st = some out → seg Try.prog O66 K66 k (body Try.f66) (kEnd Try.prog Try.f66.results.toList) c.p st = some out := by
  intro c hc k st out h
  simp only [K66, List.mem_cons, List.not_mem_nil, or_false] at hc
  rcases hc with rfl
  · exact h66_0 k st out h
theorem g66 (k : Nat) (l0 : List (S88)) (r : Bool) (h : impl_AccountsOk.f k l0 = some r) : Good Try.prog 66 [.w (.c (.rw 0))] [.rows 0 (.e88 l0)] (o66 l0 r) := by
  refine fn_ok (k := k) O66_ok mixed Try.func66 (root := body Try.f66) (by kernel_rfl) z66_ok h66_ok ?_
  refine Lo.of (b := ((impl_AccountsOk.l0 k l0 l0 ((l0.length : Int)) 0).bind fun r => some (o66 l0 r))) (c := (impl_AccountsOk.f k l0).bind fun r => some (o66 l0 r)) (by kernel_rfl) ?_ _ (by rw [h]; rfl)
  · unfold impl_AccountsOk.f
    repeat' first
    | with_reducible exact none_L
    | with_reducible refine let_L ?_
    | with_reducible refine some_L ?_
    | with_reducible refine ite_L (fun _ => ?_) (fun _ => ?_)
    | with_reducible refine bind_L (fun _ => ?_)
    | with_reducible refine drop_L (by first | assumption | omega) ?_
    | with_reducible refine ite_I (by omega) (fun _ => ?_) (fun _ => ?_)
    | rfl
    | simp only [Bool.decide_eq_true]
    | exact Lo.refl _
    | (refine Lo.eq ?_; simp only [Bool.decide_eq_true]; done)
    | refine ite_L (fun _ => ?_) (fun _ => ?_)
theorem d66 : Sound Try.prog ⟨66, false, Q66⟩ := sound_of ⟨_, Try.func66, by kernel_rfl, by kernel_rfl⟩ fun k args hp Z K z h => by
  unfold Q66 at h
  split at h
  · obtain ⟨r, hr, hK⟩ := Option.bind_eq_some_iff.1 h
    exact ⟨_, hK, g66 k _ r hr⟩
  · cases h
def o67 (l0 : List S90) (r : Bool) : Out Rw := ⟨[.c (.sc (.b r))], [.rows 0 (.e90 l0)]⟩
def Q67 : Mean Rw := fun k a h Z K => match a, h with
  | [.w (.c (.rw 0))], [.rows 0 (.e90 l0)] => (impl_InstrsOk.f k l0).bind fun r => K (o67 l0 r)
  | _, _ => none
def O67 : List (Cal Rw) := [⟨34, false, Q34⟩, ⟨35, false, Q35⟩]
theorem O67_ok : ∀ c ∈ O67, Sound Try.prog c := by
  intro c hc
  simp only [O67, List.mem_cons, List.not_mem_nil, or_false] at hc
  rcases hc with rfl | rfl
  · exact d34
  · exact d35
def C67_0 : Nat → St Rw → Option (Out Rw) := fun k st => match st with
  | ⟨41, 1, 1, [(0, .w (.c (.rw 0))), (5, .w (.c (.rw 0))), (6, .w (.c (.sc (.i .i64 x6)))), (7, .w (.c (.sc (.i .i64 x7))))], [(0, .rows 0 (.e90 l0))]⟩ => (impl_InstrsOk.l0 k l0 l0 x6 x7).bind fun r => some (o67 l0 r)
  | _ => none
def K67 : List (Cut Rw) := [⟨[false, true, false, true], [0, 5, 6, 7], C67_0⟩]
theorem e67_0 (k : Nat) (x6 : Int) (x7 : Int) (l0 : List S90) : Lo (seg Try.prog O67 K67 k (body Try.f67) (kEnd Try.prog Try.f67.results.toList) [false, true, false, true] ⟨41, 1, 1, [(0, .w (.c (.rw 0))), (5, .w (.c (.rw 0))), (6, .w (.c (.sc (.i .i64 x6)))), (7, .w (.c (.sc (.i .i64 x7))))], [(0, .rows 0 (.e90 l0))]⟩) ((impl_InstrsOk.l0 (k + 1) l0 l0 x6 x7).bind fun r => some (o67 l0 r)) :=
  Lo.of (b := (if x7 < x6 then (if 0 ≤ x7 then (if x7 < (l0.length : Int) then ((impl_isNo.f (rd_T90 l0 x7).f0).bind fun r4 => (if r4 = true then ((impl_in.f (rd_T90 l0 x7).f1 1 2).bind fun r5 => (if r5 = true then (if x7 > 0 then (if 0 ≤ RowKit.wrap64 (x7 - 1) then (if RowKit.wrap64 (x7 - 1) < (l0.length : Int) then (if (rd_T90 l0 (RowKit.wrap64 (x7 - 1))).f0 ≥ (rd_T90 l0 x7).f0 then (some (o67 l0 false)) else ((impl_InstrsOk.l0 k l0 l0 x6 (RowKit.wrap64 (x7 + 1))).bind fun r => some (o67 l0 r))) else none) else none) else ((impl_InstrsOk.l0 k l0 l0 x6 (RowKit.wrap64 (x7 + 1))).bind fun r => some (o67 l0 r))) else (some (o67 l0 false)))) else (some (o67 l0 false)))) else none) else none) else (some (o67 l0 (decide ((l0.length : Int) ≤ 8)))))) (by kernel_rfl) (by
    rw [impl_InstrsOk.l0]
    repeat' first
    | with_reducible exact none_L
    | with_reducible refine let_L ?_
    | with_reducible refine some_L ?_
    | with_reducible refine ite_L (fun _ => ?_) (fun _ => ?_)
    | with_reducible refine bind_L (fun _ => ?_)
    | with_reducible refine drop_L (by first | assumption | omega) ?_
    | with_reducible refine ite_I (by omega) (fun _ => ?_) (fun _ => ?_)
    | rfl
    | simp only [Bool.decide_eq_true]
    | exact Lo.refl _
    | (refine Lo.eq ?_; simp only [Bool.decide_eq_true]; done)
    | refine ite_L (fun _ => ?_) (fun _ => ?_))
theorem h67_0 (k : Nat) (st : St Rw) (out : Out Rw) (h : C67_0 (k + 1) st = some out) : seg Try.prog O67 K67 k (body Try.f67) (kEnd Try.prog Try.f67.results.toList) [false, true, false, true] st = some out := by
  unfold C67_0 at h
  split at h
  · exact e67_0 _ _ _ _ out h
  · cases h
theorem z67_ok : ∀ c ∈ K67, ∀ st, c.f 0 st = none := by
  intro c hc st
  simp only [K67, List.mem_cons, List.not_mem_nil, or_false] at hc
  rcases hc with rfl
  · show C67_0 0 st = none; unfold C67_0; split <;> rfl
theorem h67_ok : ∀ c ∈ K67, ∀ k st out, c.f (k + 1) st = some out → seg Try.prog O67 K67 k (body Try.f67) (kEnd Try.prog Try.f67.results.toList) c.p st = some out := by
  intro c hc k st out h
  simp only [K67, List.mem_cons, List.not_mem_nil, or_false] at hc
  rcases hc with rfl
  · exact h67_0 k st out h
theorem g67 (k : Nat) (l0 : List (S90)) (r : Bool) (h : impl_InstrsOk.f k l0 = some r) : Good Try.prog 67 [.w (.c (.rw 0))] [.rows 0 (.e90 l0)] (o67 l0 r) := by
  refine fn_ok (k := k) O67_ok mixed Try.func67 (root := body Try.f67) (by kernel_rfl) z67_ok h67_ok ?_
  refine Lo.of (b := ((impl_InstrsOk.l0 k l0 l0 ((l0.length : Int)) 0).bind fun r => some (o67 l0 r))) (c := (impl_InstrsOk.f k l0).bind fun r => some (o67 l0 r)) (by kernel_rfl) ?_ _ (by rw [h]; rfl)
  · unfold impl_InstrsOk.f
    repeat' first
    | with_reducible exact none_L
    | with_reducible refine let_L ?_
    | with_reducible refine some_L ?_
    | with_reducible refine ite_L (fun _ => ?_) (fun _ => ?_)
    | with_reducible refine bind_L (fun _ => ?_)
    | with_reducible refine drop_L (by first | assumption | omega) ?_
    | with_reducible refine ite_I (by omega) (fun _ => ?_) (fun _ => ?_)
    | rfl
    | simp only [Bool.decide_eq_true]
    | exact Lo.refl _
    | (refine Lo.eq ?_; simp only [Bool.decide_eq_true]; done)
    | refine ite_L (fun _ => ?_) (fun _ => ?_)
theorem d67 : Sound Try.prog ⟨67, false, Q67⟩ := sound_of ⟨_, Try.func67, by kernel_rfl, by kernel_rfl⟩ fun k args hp Z K z h => by
  unfold Q67 at h
  split at h
  · obtain ⟨r, hr, hK⟩ := Option.bind_eq_some_iff.1 h
    exact ⟨_, hK, g67 k _ r hr⟩
  · cases h
def o91 (r : Bool) : Out Rw := ⟨[.c (.sc (.b r))], []⟩
def Q91 : Mean Rw := fun k a h Z K => match a, h with
  | [.w (.c (.sc (.i .i64 a0)))], [] => (impl_AmountOk.f a0).bind fun r => K (o91 r)
  | _, _ => none
def O91 : List (Cal Rw) := [⟨35, false, Q35⟩]
theorem O91_ok : ∀ c ∈ O91, Sound Try.prog c := by
  intro c hc
  simp only [O91, List.mem_cons, List.not_mem_nil, or_false] at hc
  rcases hc with rfl
  · exact d35
def K91 : List (Cut Rw) := []
theorem z91_ok : ∀ c ∈ K91, ∀ st, c.f 0 st = none := by
  intro c hc st
  simp only [K91, List.mem_cons, List.not_mem_nil, or_false] at hc
theorem h91_ok : ∀ c ∈ K91, ∀ k st out, c.f (k + 1) st = some out → seg Try.prog O91 K91 k (body Try.f91) (kEnd Try.prog Try.f91.results.toList) c.p st = some out := by
  intro c hc k st out h
  simp only [K91, List.mem_cons, List.not_mem_nil, or_false] at hc
theorem g91 (k : Nat) (a0 : Int) (r : Bool) (h : impl_AmountOk.f a0 = some r) : Good Try.prog 91 [.w (.c (.sc (.i .i64 a0)))] [] (o91 r) := by
  refine fn_ok (k := k) O91_ok mixed Try.func91 (root := body Try.f91) (by kernel_rfl) z91_ok h91_ok ?_
  refine Lo.of (b := ((impl_in.f a0 (-1000000000000000) 1000000000000000).bind fun r2 => (some (o91 r2)))) (c := (impl_AmountOk.f a0).bind fun r => some (o91 r)) (by kernel_rfl) ?_ _ (by rw [h]; rfl)
  · unfold impl_AmountOk.f
    repeat' first
    | with_reducible exact none_L
    | with_reducible refine let_L ?_
    | with_reducible refine some_L ?_
    | with_reducible refine ite_L (fun _ => ?_) (fun _ => ?_)
    | with_reducible refine bind_L (fun _ => ?_)
    | with_reducible refine drop_L (by first | assumption | omega) ?_
    | with_reducible refine ite_I (by omega) (fun _ => ?_) (fun _ => ?_)
    | rfl
    | simp only [Bool.decide_eq_true]
    | exact Lo.refl _
    | (refine Lo.eq ?_; simp only [Bool.decide_eq_true]; done)
    | refine ite_L (fun _ => ?_) (fun _ => ?_)
theorem d91 : Sound Try.prog ⟨91, false, Q91⟩ := sound_of ⟨_, Try.func91, by kernel_rfl, by kernel_rfl⟩ fun k args hp Z K z h => by
  unfold Q91 at h
  split at h
  · obtain ⟨r, hr, hK⟩ := Option.bind_eq_some_iff.1 h
    exact ⟨_, hK, g91 k _ r hr⟩
  · cases h
def o92 (r : Int) : Out Rw := ⟨[.c (.sc (.i .i64 r))], []⟩
def Q92 : Mean Rw := fun k a h Z K => match a, h with
  | [.w (.c (.sc (.i .i64 a0))), .w (.c (.sc (.i .i64 a1))), .w (.c (.sc (.i .i64 a2))), .w (.c (.sc (.i .i64 a3)))], [] => (impl_byBoth.f k a0 a1 a2 a3).bind fun r => K (o92 r)
  | _, _ => none
def O92 : List (Cal Rw) := []
theorem O92_ok : ∀ c ∈ O92, Sound Try.prog c := by
  intro c hc
  simp only [O92, List.mem_cons, List.not_mem_nil, or_false] at hc
def C92_0 : Nat → St Rw → Option (Out Rw) := fun k st => match st with
  | ⟨32, 0, 0, [(0, .w (.c (.sc (.i .i64 x0)))), (1, .w (.c (.sc (.i .i64 x1)))), (2, .w (.c (.sc (.i .i64 x2)))), (3, .w (.c (.sc (.i .i64 x3)))), (9, .w (.c (.sc (.b x9))))], []⟩ => (impl_byBoth.j0 k x0 x1 x2 x3 x9).bind fun r => some (o92 r)
  | _ => none
def K92 : List (Cut Rw) := [⟨[true, false, false, true], [0, 1, 2, 3, 9], C92_0⟩]
theorem e92_0 (k : Nat) (x0 : Int) (x1 : Int) (x2 : Int) (x3 : Int) (x9 : Bool) : Lo (seg Try.prog O92 K92 k (body Try.f92) (kEnd Try.prog Try.f92.results.toList) [true, false, false, true] ⟨32, 0, 0, [(0, .w (.c (.sc (.i .i64 x0)))), (1, .w (.c (.sc (.i .i64 x1)))), (2, .w (.c (.sc (.i .i64 x2)))), (3, .w (.c (.sc (.i .i64 x3)))), (9, .w (.c (.sc (.b x9))))], []⟩) ((impl_byBoth.j0 (k + 1) x0 x1 x2 x3 x9).bind fun r => some (o92 r)) :=
  Lo.of (b := (if x9 = true then (some (o92 (-1))) else (if x0 = x2 then (if x1 = x3 then (some (o92 0)) else (some (o92 1))) else (some (o92 1))))) (by kernel_rfl) (by
    rw [impl_byBoth.j0]
    repeat' first
    | with_reducible exact none_L
    | with_reducible refine let_L ?_
    | with_reducible refine some_L ?_
    | with_reducible refine ite_L (fun _ => ?_) (fun _ => ?_)
    | with_reducible refine bind_L (fun _ => ?_)
    | with_reducible refine drop_L (by first | assumption | omega) ?_
    | with_reducible refine ite_I (by omega) (fun _ => ?_) (fun _ => ?_)
    | rfl
    | simp only [Bool.decide_eq_true]
    | exact Lo.refl _
    | (refine Lo.eq ?_; simp only [Bool.decide_eq_true]; done)
    | refine ite_L (fun _ => ?_) (fun _ => ?_))
theorem h92_0 (k : Nat) (st : St Rw) (out : Out Rw) (h : C92_0 (k + 1) st = some out) : seg Try.prog O92 K92 k (body Try.f92) (kEnd Try.prog Try.f92.results.toList) [true, false, false, true] st = some out := by
  unfold C92_0 at h
  split at h
  · exact e92_0 _ _ _ _ _ _ out h
  · cases h
theorem z92_ok : ∀ c ∈ K92, ∀ st, c.f 0 st = none := by
  intro c hc st
  simp only [K92, List.mem_cons, List.not_mem_nil, or_false] at hc
  rcases hc with rfl
  · show C92_0 0 st = none; unfold C92_0; split <;> rfl
theorem h92_ok : ∀ c ∈ K92, ∀ k st out, c.f (k + 1) st = some out → seg Try.prog O92 K92 k (body Try.f92) (kEnd Try.prog Try.f92.results.toList) c.p st = some out := by
  intro c hc k st out h
  simp only [K92, List.mem_cons, List.not_mem_nil, or_false] at hc
  rcases hc with rfl
  · exact h92_0 k st out h
theorem g92 (k : Nat) (a0 : Int) (a1 : Int) (a2 : Int) (a3 : Int) (r : Int) (h : impl_byBoth.f k a0 a1 a2 a3 = some r) : Good Try.prog 92 [.w (.c (.sc (.i .i64 a0))), .w (.c (.sc (.i .i64 a1))), .w (.c (.sc (.i .i64 a2))), .w (.c (.sc (.i .i64 a3)))] [] (o92 r) := by
  refine fn_ok (k := k) O92_ok mixed Try.func92 (root := body Try.f92) (by kernel_rfl) z92_ok h92_ok ?_
  refine Lo.of (b := (if a0 < a2 then ((impl_byBoth.j0 k a0 a1 a2 a3 true).bind fun r => some (o92 r)) else (if a0 = a2 then ((impl_byBoth.j0 k a0 a1 a2 a3 (decide (a1 < a3))).bind fun r => some (o92 r)) else ((impl_byBoth.j0 k a0 a1 a2 a3 false).bind fun r => some (o92 r))))) (c := (impl_byBoth.f k a0 a1 a2 a3).bind fun r => some (o92 r)) (by kernel_rfl) ?_ _ (by rw [h]; rfl)
  · unfold impl_byBoth.f
    repeat' first
    | with_reducible exact none_L
    | with_reducible refine let_L ?_
    | with_reducible refine some_L ?_
    | with_reducible refine ite_L (fun _ => ?_) (fun _ => ?_)
    | with_reducible refine bind_L (fun _ => ?_)
    | with_reducible refine drop_L (by first | assumption | omega) ?_
    | with_reducible refine ite_I (by omega) (fun _ => ?_) (fun _ => ?_)
    | rfl
    | simp only [Bool.decide_eq_true]
    | exact Lo.refl _
    | (refine Lo.eq ?_; simp only [Bool.decide_eq_true]; done)
    | refine ite_L (fun _ => ?_) (fun _ => ?_)
theorem d92 : Sound Try.prog ⟨92, false, Q92⟩ := sound_of ⟨_, Try.func92, by kernel_rfl, by kernel_rfl⟩ fun k args hp Z K z h => by
  unfold Q92 at h
  split at h
  · obtain ⟨r, hr, hK⟩ := Option.bind_eq_some_iff.1 h
    exact ⟨_, hK, g92 k _ _ _ _ r hr⟩
  · cases h
def o68 (l0 : List S93) (r : Bool) : Out Rw := ⟨[.c (.sc (.b r))], [.rows 0 (.e93 l0)]⟩
def Q68 : Mean Rw := fun k a h Z K => match a, h with
  | [.w (.c (.rw 0))], [.rows 0 (.e93 l0)] => (impl_BalsOk.f k l0).bind fun r => K (o68 l0 r)
  | _, _ => none
def O68 : List (Cal Rw) := [⟨34, false, Q34⟩, ⟨91, false, Q91⟩, ⟨92, false, Q92⟩]
theorem O68_ok : ∀ c ∈ O68, Sound Try.prog c := by
  intro c hc
  simp only [O68, List.mem_cons, List.not_mem_nil, or_false] at hc
  rcases hc with rfl | rfl | rfl
  · exact d34
  · exact d91
  · exact d92
def C68_0 : Nat → St Rw → Option (Out Rw) := fun k st => match st with
  | ⟨59, 1, 1, [(0, .w (.c (.rw 0))), (5, .w (.c (.rw 0))), (6, .w (.c (.sc (.i .i64 x6)))), (7, .w (.c (.sc (.i .i64 x7))))], [(0, .rows 0 (.e93 l0))]⟩ => (impl_BalsOk.l0 k l0 l0 x6 x7).bind fun r => some (o68 l0 r)
  | _ => none
def C68_1 : Nat → St Rw → Option (Out Rw) := fun k st => match st with
  | ⟨59, 1, 2, [(0, .w (.c (.rw 0))), (3, .w (.c (.sc (.i .i64 x3)))), (4, .pt 1 0), (5, .w (.c (.rw 0))), (6, .w (.c (.sc (.i .i64 x6)))), (7, .w (.c (.sc (.i .i64 x7)))), (32, .w (.c (.sc (.b x32))))], [(0, .rows 0 (.e93 l0)), (1, .box 93 [.sc (.i .i64 b1_0), .sc (.i .i64 b1_1), .sc (.i .i64 b1_2)])]⟩ => (impl_BalsOk.j1 k l0 x3 l0 x6 x7 x32 b1_0 b1_1 b1_2).bind fun r => some (o68 l0 r)
  | _ => none
def K68 : List (Cut Rw) := [⟨[false, true, false, true], [0, 5, 6, 7], C68_0⟩, ⟨[true, false, true, false, false, true, true, false, false, true, false, true], [0, 3, 4, 5, 6, 7, 32], C68_1⟩]
theorem e68_0 (k : Nat) (x6 : Int) (x7 : Int) (l0 : List S93) : Lo (seg Try.prog O68 K68 k (body Try.f68) (kEnd Try.prog Try.f68.results.toList) [false, true, false, true] ⟨59, 1, 1, [(0, .w (.c (.rw 0))), (5, .w (.c (.rw 0))), (6, .w (.c (.sc (.i .i64 x6)))), (7, .w (.c (.sc (.i .i64 x7))))], [(0, .rows 0 (.e93 l0))]⟩) ((impl_BalsOk.l0 (k + 1) l0 l0 x6 x7).bind fun r => some (o68 l0 r)) :=
  Lo.of (b := (if x7 < x6 then (if 0 ≤ x7 then (if x7 < (l0.length : Int) then ((impl_isNo.f (rd_T93 l0 x7).f0).bind fun r4 => (if r4 = true then ((impl_isNo.f (rd_T93 l0 x7).f1).bind fun r5 => (if r5 = true then ((impl_AmountOk.f (rd_T93 l0 x7).f2).bind fun r6 => (if r6 = true then ((impl_BalsOk.j1 k l0 x7 l0 x6 x7 (decide ((rd_T93 l0 x7).f2 = 0)) ((rd_T93 l0 x7).f0) ((rd_T93 l0 x7).f1) ((rd_T93 l0 x7).f2)).bind fun r => some (o68 l0 r)) else ((impl_BalsOk.j1 k l0 x7 l0 x6 x7 true ((rd_T93 l0 x7).f0) ((rd_T93 l0 x7).f1) ((rd_T93 l0 x7).f2)).bind fun r => some (o68 l0 r)))) else ((impl_BalsOk.j1 k l0 x7 l0 x6 x7 true ((rd_T93 l0 x7).f0) ((rd_T93 l0 x7).f1) ((rd_T93 l0 x7).f2)).bind fun r => some (o68 l0 r)))) else ((impl_BalsOk.j1 k l0 x7 l0 x6 x7 true ((rd_T93 l0 x7).f0) ((rd_T93 l0 x7).f1) ((rd_T93 l0 x7).f2)).bind fun r => some (o68 l0 r)))) else none) else none) else (some (o68 l0 (decide ((l0.length : Int) ≤ 160)))))) (by kernel_rfl) (by
    rw [impl_BalsOk.l0]
    repeat' first
    | with_reducible exact none_L
    | with_reducible refine let_L ?_
    | with_reducible refine some_L ?_
    | with_reducible refine ite_L (fun _ => ?_) (fun _ => ?_)
    | with_reducible refine bind_L (fun _ => ?_)
    | with_reducible refine drop_L (by first | assumption | omega) ?_
    | with_reducible refine ite_I (by omega) (fun _ => ?_) (fun _ => ?_)
    | rfl
    | simp only [Bool.decide_eq_true]
    | exact Lo.refl _
    | (refine Lo.eq ?_; simp only [Bool.decide_eq_true]; done)
    | refine ite_L (fun _ => ?_) (fun _ => ?_))
theorem h68_0 (k : Nat) (st : St Rw) (out : Out Rw) (h : C68_0 (k + 1) st = some out) : seg Try.prog O68 K68 k (body Try.f68) (kEnd Try.prog Try.f68.results.toList) [false, true, false, true] st = some out := by
  unfold C68_0 at h
  split at h
  · exact e68_0 _ _ _ _ out h
  · cases h
theorem e68_1 (k : Nat) (x3 : Int) (x6 : Int) (x7 : Int) (x32 : Bool) (l0 : List S93) (b1_0 : Int) (b1_1 : Int) (b1_2 : Int) : Lo (seg Try.prog O68 K68 k (body Try.f68) (kEnd Try.prog Try.f68.results.toList) [true, false, true, false, false, true, true, false, false, true, false, true] ⟨59, 1, 2, [(0, .w (.c (.rw 0))), (3, .w (.c (.sc (.i .i64 x3)))), (4, .pt 1 0), (5, .w (.c (.rw 0))), (6, .w (.c (.sc (.i .i64 x6)))), (7, .w (.c (.sc (.i .i64 x7)))), (32, .w (.c (.sc (.b x32))))], [(0, .rows 0 (.e93 l0)), (1, .box 93 [.sc (.i .i64 b1_0), .sc (.i .i64 b1_1), .sc (.i .i64 b1_2)])]⟩) ((impl_BalsOk.j1 (k + 1) l0 x3 l0 x6 x7 x32 b1_0 b1_1 b1_2).bind fun r => some (o68 l0 r)) :=
  Lo.of (b := (if x32 = true then (some (o68 l0 false)) else (if x3 > 0 then (if 0 ≤ RowKit.wrap64 (x3 - 1) then (if RowKit.wrap64 (x3 - 1) < (l0.length : Int) then (if 0 ≤ RowKit.wrap64 (x3 - 1) then (if RowKit.wrap64 (x3 - 1) < (l0.length : Int) then ((impl_byBoth.f k (rd_T93 l0 (RowKit.wrap64 (x3 - 1))).f0 (rd_T93 l0 (RowKit.wrap64 (x3 - 1))).f1 b1_0 b1_1).bind fun r9 => (if r9 ≥ 0 then (some (o68 l0 false)) else ((impl_BalsOk.l0 k l0 l0 x6 (RowKit.wrap64 (x7 + 1))).bind fun r => some (o68 l0 r)))) else none) else none) else none) else none) else ((impl_BalsOk.l0 k l0 l0 x6 (RowKit.wrap64 (x7 + 1))).bind fun r => some (o68 l0 r))))) (by kernel_rfl) (by
    rw [impl_BalsOk.j1]
    repeat' first
    | with_reducible exact none_L
    | with_reducible refine let_L ?_
    | with_reducible refine some_L ?_
    | with_reducible refine ite_L (fun _ => ?_) (fun _ => ?_)
    | with_reducible refine bind_L (fun _ => ?_)
    | with_reducible refine drop_L (by first | assumption | omega) ?_
    | with_reducible refine ite_I (by omega) (fun _ => ?_) (fun _ => ?_)
    | rfl
    | simp only [Bool.decide_eq_true]
    | exact Lo.refl _
    | (refine Lo.eq ?_; simp only [Bool.decide_eq_true]; done)
    | refine ite_L (fun _ => ?_) (fun _ => ?_))
theorem h68_1 (k : Nat) (st : St Rw) (out : Out Rw) (h : C68_1 (k + 1) st = some out) : seg Try.prog O68 K68 k (body Try.f68) (kEnd Try.prog Try.f68.results.toList) [true, false, true, false, false, true, true, false, false, true, false, true] st = some out := by
  unfold C68_1 at h
  split at h
  · exact e68_1 _ _ _ _ _ _ _ _ _ out h
  · cases h
theorem z68_ok : ∀ c ∈ K68, ∀ st, c.f 0 st = none := by
  intro c hc st
  simp only [K68, List.mem_cons, List.not_mem_nil, or_false] at hc
  rcases hc with rfl | rfl
  · show C68_0 0 st = none; unfold C68_0; split <;> rfl
  · show C68_1 0 st = none; unfold C68_1; split <;> rfl
theorem h68_ok : ∀ c ∈ K68, ∀ k st out, c.f (k + 1) st = some out → seg Try.prog O68 K68 k (body Try.f68) (kEnd Try.prog Try.f68.results.toList) c.p st = some out := by
  intro c hc k st out h
  simp only [K68, List.mem_cons, List.not_mem_nil, or_false] at hc
  rcases hc with rfl | rfl
  · exact h68_0 k st out h
  · exact h68_1 k st out h
theorem g68 (k : Nat) (l0 : List (S93)) (r : Bool) (h : impl_BalsOk.f k l0 = some r) : Good Try.prog 68 [.w (.c (.rw 0))] [.rows 0 (.e93 l0)] (o68 l0 r) := by
  refine fn_ok (k := k) O68_ok mixed Try.func68 (root := body Try.f68) (by kernel_rfl) z68_ok h68_ok ?_
  refine Lo.of (b := ((impl_BalsOk.l0 k l0 l0 ((l0.length : Int)) 0).bind fun r => some (o68 l0 r))) (c := (impl_BalsOk.f k l0).bind fun r => some (o68 l0 r)) (by kernel_rfl) ?_ _ (by rw [h]; rfl)
  · unfold impl_BalsOk.f
    repeat' first
    | with_reducible exact none_L
    | with_reducible refine let_L ?_
    | with_reducible refine some_L ?_
    | with_reducible refine ite_L (fun _ => ?_) (fun _ => ?_)
    | with_reducible refine bind_L (fun _ => ?_)
    | with_reducible refine drop_L (by first | assumption | omega) ?_
    | with_reducible refine ite_I (by omega) (fun _ => ?_) (fun _ => ?_)
    | rfl
    | simp only [Bool.decide_eq_true]
    | exact Lo.refl _
    | (refine Lo.eq ?_; simp only [Bool.decide_eq_true]; done)
    | refine ite_L (fun _ => ?_) (fun _ => ?_)
theorem d68 : Sound Try.prog ⟨68, false, Q68⟩ := sound_of ⟨_, Try.func68, by kernel_rfl, by kernel_rfl⟩ fun k args hp Z K z h => by
  unfold Q68 at h
  split at h
  · obtain ⟨r, hr, hK⟩ := Option.bind_eq_some_iff.1 h
    exact ⟨_, hK, g68 k _ r hr⟩
  · cases h
def o97 (l0 : List S96) (r : Int × Int) : Out Rw := ⟨[.c (.sc (.i .i64 r.1)), .c (.sc (.i .i64 r.2))], [.rows 0 (.e96 l0)]⟩
def Q97 : Mean Rw := fun k a h Z K => match a, h with
  | [.w (.c (.rw 0))], [.rows 0 (.e96 l0)] => (impl_sumLots.f k l0).bind fun r => K (o97 l0 r)
  | _, _ => none
def O97 : List (Cal Rw) := []
theorem O97_ok : ∀ c ∈ O97, Sound Try.prog c := by
  intro c hc
  simp only [O97, List.mem_cons, List.not_mem_nil, or_false] at hc
def C97_0 : Nat → St Rw → Option (Out Rw) := fun k st => match st with
  | ⟨25, 1, 1, [(4, .w (.c (.sc (.i .i64 x4)))), (5, .w (.c (.sc (.i .i64 x5)))), (8, .w (.c (.rw 0))), (9, .w (.c (.sc (.i .i64 x9)))), (10, .w (.c (.sc (.i .i64 x10))))], [(0, .rows 0 (.e96 l0))]⟩ => (impl_sumLots.l0 k x4 x5 l0 x9 x10).bind fun r => some (o97 l0 r)
  | _ => none
def K97 : List (Cut Rw) := [⟨[false, true, false, true, true], [4, 5, 8, 9, 10], C97_0⟩]
theorem e97_0 (k : Nat) (x4 : Int) (x5 : Int) (x9 : Int) (x10 : Int) (l0 : List S96) : Lo (seg Try.prog O97 K97 k (body Try.f97) (kEnd Try.prog Try.f97.results.toList) [false, true, false, true, true] ⟨25, 1, 1, [(4, .w (.c (.sc (.i .i64 x4)))), (5, .w (.c (.sc (.i .i64 x5)))), (8, .w (.c (.rw 0))), (9, .w (.c (.sc (.i .i64 x9)))), (10, .w (.c (.sc (.i .i64 x10))))], [(0, .rows 0 (.e96 l0))]⟩) ((impl_sumLots.l0 (k + 1) x4 x5 l0 x9 x10).bind fun r => some (o97 l0 r)) :=
  Lo.of (b := (if x10 < x9 then (if 0 ≤ x10 then (if x10 < (l0.length : Int) then ((impl_sumLots.l0 k (RowKit.wrap64 (x4 + (rd_T96 l0 x10).f3)) (RowKit.wrap64 (x5 + (rd_T96 l0 x10).f4)) l0 x9 (RowKit.wrap64 (x10 + 1))).bind fun r => some (o97 l0 r)) else none) else none) else (some (o97 l0 (x4, x5))))) (by kernel_rfl) (by
    rw [impl_sumLots.l0]
    repeat' first
    | with_reducible exact none_L
    | with_reducible refine let_L ?_
    | with_reducible refine some_L ?_
    | with_reducible refine ite_L (fun _ => ?_) (fun _ => ?_)
    | with_reducible refine bind_L (fun _ => ?_)
    | with_reducible refine drop_L (by first | assumption | omega) ?_
    | with_reducible refine ite_I (by omega) (fun _ => ?_) (fun _ => ?_)
    | rfl
    | simp only [Bool.decide_eq_true]
    | exact Lo.refl _
    | (refine Lo.eq ?_; simp only [Bool.decide_eq_true]; done)
    | refine ite_L (fun _ => ?_) (fun _ => ?_))
theorem h97_0 (k : Nat) (st : St Rw) (out : Out Rw) (h : C97_0 (k + 1) st = some out) : seg Try.prog O97 K97 k (body Try.f97) (kEnd Try.prog Try.f97.results.toList) [false, true, false, true, true] st = some out := by
  unfold C97_0 at h
  split at h
  · exact e97_0 _ _ _ _ _ _ out h
  · cases h
theorem z97_ok : ∀ c ∈ K97, ∀ st, c.f 0 st = none := by
  intro c hc st
  simp only [K97, List.mem_cons, List.not_mem_nil, or_false] at hc
  rcases hc with rfl
  · show C97_0 0 st = none; unfold C97_0; split <;> rfl
theorem h97_ok : ∀ c ∈ K97, ∀ k st out, c.f (k + 1) st = some out → seg Try.prog O97 K97 k (body Try.f97) (kEnd Try.prog Try.f97.results.toList) c.p st = some out := by
  intro c hc k st out h
  simp only [K97, List.mem_cons, List.not_mem_nil, or_false] at hc
  rcases hc with rfl
  · exact h97_0 k st out h
theorem g97 (k : Nat) (l0 : List (S96)) (r : Int × Int) (h : impl_sumLots.f k l0 = some r) : Good Try.prog 97 [.w (.c (.rw 0))] [.rows 0 (.e96 l0)] (o97 l0 r) := by
  refine fn_ok (k := k) O97_ok mixed Try.func97 (root := body Try.f97) (by kernel_rfl) z97_ok h97_ok ?_
  refine Lo.of (b := ((impl_sumLots.l0 k 0 0 l0 ((l0.length : Int)) 0).bind fun r => some (o97 l0 r))) (c := (impl_sumLots.f k l0).bind fun r => some (o97 l0 r)) (by kernel_rfl) ?_ _ (by rw [h]; rfl)
  · unfold impl_sumLots.f
    repeat' first
    | with_reducible exact none_L
    | with_reducible refine let_L ?_
    | with_reducible refine some_L ?_
    | with_reducible refine ite_L (fun _ => ?_) (fun _ => ?_)
    | with_reducible refine bind_L (fun _ => ?_)
    | with_reducible refine drop_L (by first | assumption | omega) ?_
    | with_reducible refine ite_I (by omega) (fun _ => ?_) (fun _ => ?_)
    | rfl
    | simp only [Bool.decide_eq_true]
    | exact Lo.refl _
    | (refine Lo.eq ?_; simp only [Bool.decide_eq_true]; done)
    | refine ite_L (fun _ => ?_) (fun _ => ?_)
theorem d97 : Sound Try.prog ⟨97, false, Q97⟩ := sound_of ⟨_, Try.func97, by kernel_rfl, by kernel_rfl⟩ fun k args hp Z K z h => by
  unfold Q97 at h
  split at h
  · obtain ⟨r, hr, hK⟩ := Option.bind_eq_some_iff.1 h
    exact ⟨_, hK, g97 k _ r hr⟩
  · cases h
def o99 (l0 : List S88) (r : Int) : Out Rw := ⟨[.c (.sc (.i .i64 r))], [.rows 0 (.e88 l0)]⟩
def Q99 : Mean Rw := fun k a h Z K => match a, h with
  | [.w (.c (.rw 0)), .w (.c (.sc (.i .i64 a1)))], [.rows 0 (.e88 l0)] => (impl_accountKind.f k l0 a1).bind fun r => K (o99 l0 r)
  | _, _ => none
def O99 : List (Cal Rw) := []
theorem O99_ok : ∀ c ∈ O99, Sound Try.prog c := by
  intro c hc
  simp only [O99, List.mem_cons, List.not_mem_nil, or_false] at hc
def C99_0 : Nat → St Rw → Option (Out Rw) := fun k st => match st with
  | ⟨20, 1, 1, [(1, .w (.c (.sc (.i .i64 x1)))), (7, .w (.c (.rw 0))), (8, .w (.c (.sc (.i .i64 x8)))), (9, .w (.c (.sc (.i .i64 x9))))], [(0, .rows 0 (.e88 l0))]⟩ => (impl_accountKind.l0 k x1 l0 x8 x9).bind fun r => some (o99 l0 r)
  | _ => none
def K99 : List (Cut Rw) := [⟨[false, true, false, true], [1, 7, 8, 9], C99_0⟩]
theorem e99_0 (k : Nat) (x1 : Int) (x8 : Int) (x9 : Int) (l0 : List S88) : Lo (seg Try.prog O99 K99 k (body Try.f99) (kEnd Try.prog Try.f99.results.toList) [false, true, false, true] ⟨20, 1, 1, [(1, .w (.c (.sc (.i .i64 x1)))), (7, .w (.c (.rw 0))), (8, .w (.c (.sc (.i .i64 x8)))), (9, .w (.c (.sc (.i .i64 x9))))], [(0, .rows 0 (.e88 l0))]⟩) ((impl_accountKind.l0 (k + 1) x1 l0 x8 x9).bind fun r => some (o99 l0 r)) :=
  Lo.of (b := (if x9 < x8 then (if 0 ≤ x9 then (if x9 < (l0.length : Int) then (if (rd_T88 l0 x9).f0 = x1 then (some (o99 l0 ((rd_T88 l0 x9).f1))) else ((impl_accountKind.l0 k x1 l0 x8 (RowKit.wrap64 (x9 + 1))).bind fun r => some (o99 l0 r))) else none) else none) else (some (o99 l0 0)))) (by kernel_rfl) (by
    rw [impl_accountKind.l0]
    repeat' first
    | with_reducible exact none_L
    | with_reducible refine let_L ?_
    | with_reducible refine some_L ?_
    | with_reducible refine ite_L (fun _ => ?_) (fun _ => ?_)
    | with_reducible refine bind_L (fun _ => ?_)
    | with_reducible refine drop_L (by first | assumption | omega) ?_
    | with_reducible refine ite_I (by omega) (fun _ => ?_) (fun _ => ?_)
    | rfl
    | simp only [Bool.decide_eq_true]
    | exact Lo.refl _
    | (refine Lo.eq ?_; simp only [Bool.decide_eq_true]; done)
    | refine ite_L (fun _ => ?_) (fun _ => ?_))
theorem h99_0 (k : Nat) (st : St Rw) (out : Out Rw) (h : C99_0 (k + 1) st = some out) : seg Try.prog O99 K99 k (body Try.f99) (kEnd Try.prog Try.f99.results.toList) [false, true, false, true] st = some out := by
  unfold C99_0 at h
  split at h
  · exact e99_0 _ _ _ _ _ out h
  · cases h
theorem z99_ok : ∀ c ∈ K99, ∀ st, c.f 0 st = none := by
  intro c hc st
  simp only [K99, List.mem_cons, List.not_mem_nil, or_false] at hc
  rcases hc with rfl
  · show C99_0 0 st = none; unfold C99_0; split <;> rfl
theorem h99_ok : ∀ c ∈ K99, ∀ k st out, c.f (k + 1) st = some out → seg Try.prog O99 K99 k (body Try.f99) (kEnd Try.prog Try.f99.results.toList) c.p st = some out := by
  intro c hc k st out h
  simp only [K99, List.mem_cons, List.not_mem_nil, or_false] at hc
  rcases hc with rfl
  · exact h99_0 k st out h
theorem g99 (k : Nat) (l0 : List (S88)) (a1 : Int) (r : Int) (h : impl_accountKind.f k l0 a1 = some r) : Good Try.prog 99 [.w (.c (.rw 0)), .w (.c (.sc (.i .i64 a1)))] [.rows 0 (.e88 l0)] (o99 l0 r) := by
  refine fn_ok (k := k) O99_ok mixed Try.func99 (root := body Try.f99) (by kernel_rfl) z99_ok h99_ok ?_
  refine Lo.of (b := ((impl_accountKind.l0 k a1 l0 ((l0.length : Int)) 0).bind fun r => some (o99 l0 r))) (c := (impl_accountKind.f k l0 a1).bind fun r => some (o99 l0 r)) (by kernel_rfl) ?_ _ (by rw [h]; rfl)
  · unfold impl_accountKind.f
    repeat' first
    | with_reducible exact none_L
    | with_reducible refine let_L ?_
    | with_reducible refine some_L ?_
    | with_reducible refine ite_L (fun _ => ?_) (fun _ => ?_)
    | with_reducible refine bind_L (fun _ => ?_)
    | with_reducible refine drop_L (by first | assumption | omega) ?_
    | with_reducible refine ite_I (by omega) (fun _ => ?_) (fun _ => ?_)
    | rfl
    | simp only [Bool.decide_eq_true]
    | exact Lo.refl _
    | (refine Lo.eq ?_; simp only [Bool.decide_eq_true]; done)
    | refine ite_L (fun _ => ?_) (fun _ => ?_)
theorem d99 : Sound Try.prog ⟨99, false, Q99⟩ := sound_of ⟨_, Try.func99, by kernel_rfl, by kernel_rfl⟩ fun k args hp Z K z h => by
  unfold Q99 at h
  split at h
  · obtain ⟨r, hr, hK⟩ := Option.bind_eq_some_iff.1 h
    exact ⟨_, hK, g99 k _ _ r hr⟩
  · cases h
end Go.Proofs.Ytmfgajbkcnlkcaa.AI
namespace Go.Proofs.Ytmfgajbkcnlkcaa.AI
open Go Go.RowKit Go.Proofs.YtmfgajbkcnlkcaaW.PrintWords Go.Proofs.Ytmfgajbkcnlkcaa.P
set_option linter.unusedVariables false
set_option linter.all false
set_option maxRecDepth 100000
def o100 (l0 : List S90) (r : Int) : Out Rw := ⟨[.c (.sc (.i .i64 r))], [.rows 0 (.e90 l0)]⟩
def Q100 : Mean Rw := fun k a h Z K => match a, h with
  | [.w (.c (.rw 0)), .w (.c (.sc (.i .i64 a1)))], [.rows 0 (.e90 l0)] => (impl_instrKind.f k l0 a1).bind fun r => K (o100 l0 r)
  | _, _ => none
def O100 : List (Cal Rw) := []
theorem O100_ok : ∀ c ∈ O100, Sound Try.prog c := by
  intro c hc
  simp only [O100, List.mem_cons, List.not_mem_nil, or_false] at hc
def C100_0 : Nat → St Rw → Option (Out Rw) := fun k st => match st with
  | ⟨20, 1, 1, [(1, .w (.c (.sc (.i .i64 x1)))), (7, .w (.c (.rw 0))), (8, .w (.c (.sc (.i .i64 x8)))), (9, .w (.c (.sc (.i .i64 x9))))], [(0, .rows 0 (.e90 l0))]⟩ => (impl_instrKind.l0 k x1 l0 x8 x9).bind fun r => some (o100 l0 r)
  | _ => none
def K100 : List (Cut Rw) := [⟨[false, true, false, true], [1, 7, 8, 9], C100_0⟩]
theorem e100_0 (k : Nat) (x1 : Int) (x8 : Int) (x9 : Int) (l0 : List S90) : Lo (seg Try.prog O100 K100 k (body Try.f100) (kEnd Try.prog Try.f100.results.toList) [false, true, false, true] ⟨20, 1, 1, [(1, .w (.c (.sc (.i .i64 x1)))), (7, .w (.c (.rw 0))), (8, .w (.c (.sc (.i .i64 x8)))), (9, .w (.c (.sc (.i .i64 x9))))], [(0, .rows 0 (.e90 l0))]⟩) ((impl_instrKind.l0 (k + 1) x1 l0 x8 x9).bind fun r => some (o100 l0 r)) :=
  Lo.of (b := (if x9 < x8 then (if 0 ≤ x9 then (if x9 < (l0.length : Int) then (if (rd_T90 l0 x9).f0 = x1 then (some (o100 l0 ((rd_T90 l0 x9).f1))) else ((impl_instrKind.l0 k x1 l0 x8 (RowKit.wrap64 (x9 + 1))).bind fun r => some (o100 l0 r))) else none) else none) else (some (o100 l0 0)))) (by kernel_rfl) (by
    rw [impl_instrKind.l0]
    repeat' first
    | with_reducible exact none_L
    | with_reducible refine let_L ?_
    | with_reducible refine some_L ?_
    | with_reducible refine ite_L (fun _ => ?_) (fun _ => ?_)
    | with_reducible refine bind_L (fun _ => ?_)
    | with_reducible refine drop_L (by first | assumption | omega) ?_
    | with_reducible refine ite_I (by omega) (fun _ => ?_) (fun _ => ?_)
    | rfl
    | simp only [Bool.decide_eq_true]
    | exact Lo.refl _
    | (refine Lo.eq ?_; simp only [Bool.decide_eq_true]; done)
    | refine ite_L (fun _ => ?_) (fun _ => ?_))
theorem h100_0 (k : Nat) (st : St Rw) (out : Out Rw) (h : C100_0 (k + 1) st = some out) : seg Try.prog O100 K100 k (body Try.f100) (kEnd Try.prog Try.f100.results.toList) [false, true, false, true] st = some out := by
  unfold C100_0 at h
  split at h
  · exact e100_0 _ _ _ _ _ out h
  · cases h
theorem z100_ok : ∀ c ∈ K100, ∀ st, c.f 0 st = none := by
  intro c hc st
  simp only [K100, List.mem_cons, List.not_mem_nil, or_false] at hc
  rcases hc with rfl
  · show C100_0 0 st = none; unfold C100_0; split <;> rfl
theorem h100_ok : ∀ c ∈ K100, ∀ k st out, c.f (k + 1) st = some out → seg Try.prog O100 K100 k (body Try.f100) (kEnd Try.prog Try.f100.results.toList) c.p st = some out := by
  intro c hc k st out h
  simp only [K100, List.mem_cons, List.not_mem_nil, or_false] at hc
  rcases hc with rfl
  · exact h100_0 k st out h
theorem g100 (k : Nat) (l0 : List (S90)) (a1 : Int) (r : Int) (h : impl_instrKind.f k l0 a1 = some r) : Good Try.prog 100 [.w (.c (.rw 0)), .w (.c (.sc (.i .i64 a1)))] [.rows 0 (.e90 l0)] (o100 l0 r) := by
  refine fn_ok (k := k) O100_ok mixed Try.func100 (root := body Try.f100) (by kernel_rfl) z100_ok h100_ok ?_
  refine Lo.of (b := ((impl_instrKind.l0 k a1 l0 ((l0.length : Int)) 0).bind fun r => some (o100 l0 r))) (c := (impl_instrKind.f k l0 a1).bind fun r => some (o100 l0 r)) (by kernel_rfl) ?_ _ (by rw [h]; rfl)
  · unfold impl_instrKind.f
    repeat' first
    | with_reducible exact none_L
    | with_reducible refine let_L ?_
    | with_reducible refine some_L ?_
    | with_reducible refine ite_L (fun _ => ?_) (fun _ => ?_)
    | with_reducible refine bind_L (fun _ => ?_)
    | with_reducible refine drop_L (by first | assumption | omega) ?_
    | with_reducible refine ite_I (by omega) (fun _ => ?_) (fun _ => ?_)
    | rfl
    | simp only [Bool.decide_eq_true]
    | exact Lo.refl _
    | (refine Lo.eq ?_; simp only [Bool.decide_eq_true]; done)
    | refine ite_L (fun _ => ?_) (fun _ => ?_)
theorem d100 : Sound Try.prog ⟨100, false, Q100⟩ := sound_of ⟨_, Try.func100, by kernel_rfl, by kernel_rfl⟩ fun k args hp Z K z h => by
  unfold Q100 at h
  split at h
  · obtain ⟨r, hr, hK⟩ := Option.bind_eq_some_iff.1 h
    exact ⟨_, hK, g100 k _ _ r hr⟩
  · cases h
def o101 (l0 : List S93) (r : Int) : Out Rw := ⟨[.c (.sc (.i .i64 r))], [.rows 0 (.e93 l0)]⟩
def Q101 : Mean Rw := fun k a h Z K => match a, h with
  | [.w (.c (.rw 0)), .w (.c (.sc (.i .i64 a1)))], [.rows 0 (.e93 l0)] => (impl_balsSum.f k l0 a1).bind fun r => K (o101 l0 r)
  | _, _ => none
def O101 : List (Cal Rw) := []
theorem O101_ok : ∀ c ∈ O101, Sound Try.prog c := by
  intro c hc
  simp only [O101, List.mem_cons, List.not_mem_nil, or_false] at hc
def C101_0 : Nat → St Rw → Option (Out Rw) := fun k st => match st with
  | ⟨24, 1, 1, [(1, .w (.c (.sc (.i .i64 x1)))), (5, .w (.c (.sc (.i .i64 x5)))), (8, .w (.c (.rw 0))), (9, .w (.c (.sc (.i .i64 x9)))), (10, .w (.c (.sc (.i .i64 x10))))], [(0, .rows 0 (.e93 l0))]⟩ => (impl_balsSum.l0 k x1 x5 l0 x9 x10).bind fun r => some (o101 l0 r)
  | _ => none
def K101 : List (Cut Rw) := [⟨[false, true, false, true, true], [1, 5, 8, 9, 10], C101_0⟩]
theorem e101_0 (k : Nat) (x1 : Int) (x5 : Int) (x9 : Int) (x10 : Int) (l0 : List S93) : Lo (seg Try.prog O101 K101 k (body Try.f101) (kEnd Try.prog Try.f101.results.toList) [false, true, false, true, true] ⟨24, 1, 1, [(1, .w (.c (.sc (.i .i64 x1)))), (5, .w (.c (.sc (.i .i64 x5)))), (8, .w (.c (.rw 0))), (9, .w (.c (.sc (.i .i64 x9)))), (10, .w (.c (.sc (.i .i64 x10))))], [(0, .rows 0 (.e93 l0))]⟩) ((impl_balsSum.l0 (k + 1) x1 x5 l0 x9 x10).bind fun r => some (o101 l0 r)) :=
  Lo.of (b := (if x10 < x9 then (if 0 ≤ x10 then (if x10 < (l0.length : Int) then (if (rd_T93 l0 x10).f1 = x1 then ((impl_balsSum.l0 k x1 (RowKit.wrap64 (x5 + (rd_T93 l0 x10).f2)) l0 x9 (RowKit.wrap64 (x10 + 1))).bind fun r => some (o101 l0 r)) else ((impl_balsSum.l0 k x1 x5 l0 x9 (RowKit.wrap64 (x10 + 1))).bind fun r => some (o101 l0 r))) else none) else none) else (some (o101 l0 x5)))) (by kernel_rfl) (by
    rw [impl_balsSum.l0]
    repeat' first
    | with_reducible exact none_L
    | with_reducible refine let_L ?_
    | with_reducible refine some_L ?_
    | with_reducible refine ite_L (fun _ => ?_) (fun _ => ?_)
    | with_reducible refine bind_L (fun _ => ?_)
    | with_reducible refine drop_L (by first | assumption | omega) ?_
    | with_reducible refine ite_I (by omega) (fun _ => ?_) (fun _ => ?_)
    | rfl
    | simp only [Bool.decide_eq_true]
    | exact Lo.refl _
    | (refine Lo.eq ?_; simp only [Bool.decide_eq_true]; done)
    | refine ite_L (fun _ => ?_) (fun _ => ?_))
theorem h101_0 (k : Nat) (st : St Rw) (out : Out Rw) (h : C101_0 (k + 1) st = some out) : seg Try.prog O101 K101 k (body Try.f101) (kEnd Try.prog Try.f101.results.toList) [false, true, false, true, true] st = some out := by
  unfold C101_0 at h
  split at h
  · exact e101_0 _ _ _ _ _ _ out h
  · cases h
theorem z101_ok : ∀ c ∈ K101, ∀ st, c.f 0 st = none := by
  intro c hc st
  simp only [K101, List.mem_cons, List.not_mem_nil, or_false] at hc
  rcases hc with rfl
  · show C101_0 0 st = none; unfold C101_0; split <;> rfl
theorem h101_ok : ∀ c ∈ K101, ∀ k st out, c.f (k + 1) st = some out → seg Try.prog O101 K101 k (body Try.f101) (kEnd Try.prog Try.f101.results.toList) c.p st = some out := by
  intro c hc k st out h
  simp only [K101, List.mem_cons, List.not_mem_nil, or_false] at hc
  rcases hc with rfl
  · exact h101_0 k st out h
theorem g101 (k : Nat) (l0 : List (S93)) (a1 : Int) (r : Int) (h : impl_balsSum.f k l0 a1 = some r) : Good Try.prog 101 [.w (.c (.rw 0)), .w (.c (.sc (.i .i64 a1)))] [.rows 0 (.e93 l0)] (o101 l0 r) := by
  refine fn_ok (k := k) O101_ok mixed Try.func101 (root := body Try.f101) (by kernel_rfl) z101_ok h101_ok ?_
  refine Lo.of (b := ((impl_balsSum.l0 k a1 0 l0 ((l0.length : Int)) 0).bind fun r => some (o101 l0 r))) (c := (impl_balsSum.f k l0 a1).bind fun r => some (o101 l0 r)) (by kernel_rfl) ?_ _ (by rw [h]; rfl)
  · unfold impl_balsSum.f
    repeat' first
    | with_reducible exact none_L
    | with_reducible refine let_L ?_
    | with_reducible refine some_L ?_
    | with_reducible refine ite_L (fun _ => ?_) (fun _ => ?_)
    | with_reducible refine bind_L (fun _ => ?_)
    | with_reducible refine drop_L (by first | assumption | omega) ?_
    | with_reducible refine ite_I (by omega) (fun _ => ?_) (fun _ => ?_)
    | rfl
    | simp only [Bool.decide_eq_true]
    | exact Lo.refl _
    | (refine Lo.eq ?_; simp only [Bool.decide_eq_true]; done)
    | refine ite_L (fun _ => ?_) (fun _ => ?_)
theorem d101 : Sound Try.prog ⟨101, false, Q101⟩ := sound_of ⟨_, Try.func101, by kernel_rfl, by kernel_rfl⟩ fun k args hp Z K z h => by
  unfold Q101 at h
  split at h
  · obtain ⟨r, hr, hK⟩ := Option.bind_eq_some_iff.1 h
    exact ⟨_, hK, g101 k _ _ r hr⟩
  · cases h
def o70 (l0_0 : List S88) (l0_1 : List S90) (l0_2 : List S93) (l0_3 : List S96) (l0_4 : List S50) (r : Bool) : Out Rw := ⟨[.c (.sc (.b r))], [.rows 0 (.e88 l0_0), .rows 0 (.e90 l0_1), .rows 0 (.e93 l0_2), .rows 0 (.e96 l0_3), .rows 0 (.e50 l0_4)]⟩
def Q70 : Mean Rw := fun k a h Z K => match a, h with
  | [.w (.ag [.rw 0, .rw 1, .rw 2, .rw 3, .rw 4, .sc (.i .i64 a0_5)])], [.rows 0 (.e88 l0_0), .rows 0 (.e90 l0_1), .rows 0 (.e93 l0_2), .rows 0 (.e96 l0_3), .rows 0 (.e50 l0_4)] => (impl_balsRight.f k l0_0 l0_1 l0_2 l0_3 l0_4 a0_5).bind fun r => K (o70 l0_0 l0_1 l0_2 l0_3 l0_4 r)
  | _, _ => none
def O70 : List (Cal Rw) := [⟨99, false, Q99⟩, ⟨100, false, Q100⟩, ⟨101, false, Q101⟩]
theorem O70_ok : ∀ c ∈ O70, Sound Try.prog c := by
  intro c hc
  simp only [O70, List.mem_cons, List.not_mem_nil, or_false] at hc
  rcases hc with rfl | rfl | rfl
  · exact d99
  · exact d100
  · exact d101
def C70_0 : Nat → St Rw → Option (Out Rw) := fun k st => match st with
  | ⟨46, 5, 6, [(1, .pt 5 0), (7, .w (.c (.rw 2))), (8, .w (.c (.sc (.i .i64 x8)))), (9, .w (.c (.sc (.i .i64 x9))))], [(0, .rows 0 (.e88 l0_0)), (1, .rows 0 (.e90 l0_1)), (2, .rows 0 (.e93 l0_2)), (3, .rows 0 (.e96 l0_3)), (4, .rows 0 (.e50 l0_4)), (5, .box 34 [.rw 0, .rw 1, .rw 2, .rw 3, .rw 4, .sc (.i .i64 b5_5)])]⟩ => (impl_balsRight.l0 k l0_2 x8 x9 l0_0 l0_1 l0_2 l0_3 l0_4 b5_5).bind fun r => some (o70 l0_0 l0_1 l0_2 l0_3 l0_4 r)
  | _ => none
def K70 : List (Cut Rw) := [⟨[false, true, false, true], [1, 7, 8, 9], C70_0⟩]
theorem e70_0 (k : Nat) (x8 : Int) (x9 : Int) (l0_0 : List S88) (l0_1 : List S90) (l0_2 : List S93) (l0_3 : List S96) (l0_4 : List S50) (b5_5 : Int) : Lo (seg Try.prog O70 K70 k (body Try.f70) (kEnd Try.prog Try.f70.results.toList) [false, true, false, true] ⟨46, 5, 6, [(1, .pt 5 0), (7, .w (.c (.rw 2))), (8, .w (.c (.sc (.i .i64 x8)))), (9, .w (.c (.sc (.i .i64 x9))))], [(0, .rows 0 (.e88 l0_0)), (1, .rows 0 (.e90 l0_1)), (2, .rows 0 (.e93 l0_2)), (3, .rows 0 (.e96 l0_3)), (4, .rows 0 (.e50 l0_4)), (5, .box 34 [.rw 0, .rw 1, .rw 2, .rw 3, .rw 4, .sc (.i .i64 b5_5)])]⟩) ((impl_balsRight.l0 (k + 1) l0_2 x8 x9 l0_0 l0_1 l0_2 l0_3 l0_4 b5_5).bind fun r => some (o70 l0_0 l0_1 l0_2 l0_3 l0_4 r)) :=
  Lo.of (b := (if x9 < x8 then (if 0 ≤ x9 then (if x9 < (l0_2.length : Int) then ((impl_accountKind.f k l0_0 (rd_T93 l0_2 x9).f0).bind fun r9 => (if r9 = 0 then (some (o70 l0_0 l0_1 l0_2 l0_3 l0_4 false)) else ((impl_instrKind.f k l0_1 (rd_T93 l0_2 x9).f1).bind fun r10 => (if r10 = 0 then (some (o70 l0_0 l0_1 l0_2 l0_3 l0_4 false)) else (if r9 = 1 then (if (rd_T93 l0_2 x9).f2 < 0 then (some (o70 l0_0 l0_1 l0_2 l0_3 l0_4 false)) else ((impl_balsSum.f k l0_2 (rd_T93 l0_2 x9).f1).bind fun r11 => (if r11 = 0 then ((impl_balsRight.l0 k l0_2 x8 (RowKit.wrap64 (x9 + 1)) l0_0 l0_1 l0_2 l0_3 l0_4 b5_5).bind fun r => some (o70 l0_0 l0_1 l0_2 l0_3 l0_4 r)) else (some (o70 l0_0 l0_1 l0_2 l0_3 l0_4 false))))) else ((impl_balsSum.f k l0_2 (rd_T93 l0_2 x9).f1).bind fun r11 => (if r11 = 0 then ((impl_balsRight.l0 k l0_2 x8 (RowKit.wrap64 (x9 + 1)) l0_0 l0_1 l0_2 l0_3 l0_4 b5_5).bind fun r => some (o70 l0_0 l0_1 l0_2 l0_3 l0_4 r)) else (some (o70 l0_0 l0_1 l0_2 l0_3 l0_4 false))))))))) else none) else none) else (some (o70 l0_0 l0_1 l0_2 l0_3 l0_4 true)))) (by kernel_rfl) (by
    rw [impl_balsRight.l0]
    repeat' first
    | with_reducible exact none_L
    | with_reducible refine let_L ?_
    | with_reducible refine some_L ?_
    | with_reducible refine ite_L (fun _ => ?_) (fun _ => ?_)
    | with_reducible refine bind_L (fun _ => ?_)
    | with_reducible refine drop_L (by first | assumption | omega) ?_
    | with_reducible refine ite_I (by omega) (fun _ => ?_) (fun _ => ?_)
    | rfl
    | simp only [Bool.decide_eq_true]
    | exact Lo.refl _
    | (refine Lo.eq ?_; simp only [Bool.decide_eq_true]; done)
    | refine ite_L (fun _ => ?_) (fun _ => ?_))
theorem h70_0 (k : Nat) (st : St Rw) (out : Out Rw) (h : C70_0 (k + 1) st = some out) : seg Try.prog O70 K70 k (body Try.f70) (kEnd Try.prog Try.f70.results.toList) [false, true, false, true] st = some out := by
  unfold C70_0 at h
  split at h
  · exact e70_0 _ _ _ _ _ _ _ _ _ out h
  · cases h
theorem z70_ok : ∀ c ∈ K70, ∀ st, c.f 0 st = none := by
  intro c hc st
  simp only [K70, List.mem_cons, List.not_mem_nil, or_false] at hc
  rcases hc with rfl
  · show C70_0 0 st = none; unfold C70_0; split <;> rfl
theorem h70_ok : ∀ c ∈ K70, ∀ k st out, c.f (k + 1) st = some out → seg Try.prog O70 K70 k (body Try.f70) (kEnd Try.prog Try.f70.results.toList) c.p st = some out := by
  intro c hc k st out h
  simp only [K70, List.mem_cons, List.not_mem_nil, or_false] at hc
  rcases hc with rfl
  · exact h70_0 k st out h
theorem g70 (k : Nat) (l0_0 : List (S88)) (l0_1 : List (S90)) (l0_2 : List (S93)) (l0_3 : List (S96)) (l0_4 : List (S50)) (a0_5 : Int) (r : Bool) (h : impl_balsRight.f k l0_0 l0_1 l0_2 l0_3 l0_4 a0_5 = some r) : Good Try.prog 70 [.w (.ag [.rw 0, .rw 1, .rw 2, .rw 3, .rw 4, .sc (.i .i64 a0_5)])] [.rows 0 (.e88 l0_0), .rows 0 (.e90 l0_1), .rows 0 (.e93 l0_2), .rows 0 (.e96 l0_3), .rows 0 (.e50 l0_4)] (o70 l0_0 l0_1 l0_2 l0_3 l0_4 r) := by
  refine fn_ok (k := k) O70_ok mixed Try.func70 (root := body Try.f70) (by kernel_rfl) z70_ok h70_ok ?_
  refine Lo.of (b := ((impl_balsRight.l0 k l0_2 ((l0_2.length : Int)) 0 l0_0 l0_1 l0_2 l0_3 l0_4 a0_5).bind fun r => some (o70 l0_0 l0_1 l0_2 l0_3 l0_4 r))) (c := (impl_balsRight.f k l0_0 l0_1 l0_2 l0_3 l0_4 a0_5).bind fun r => some (o70 l0_0 l0_1 l0_2 l0_3 l0_4 r)) (by kernel_rfl) ?_ _ (by rw [h]; rfl)
  · unfold impl_balsRight.f
    repeat' first
    | with_reducible exact none_L
    | with_reducible refine let_L ?_
    | with_reducible refine some_L ?_
    | with_reducible refine ite_L (fun _ => ?_) (fun _ => ?_)
    | with_reducible refine bind_L (fun _ => ?_)
    | with_reducible refine drop_L (by first | assumption | omega) ?_
    | with_reducible refine ite_I (by omega) (fun _ => ?_) (fun _ => ?_)
    | rfl
    | simp only [Bool.decide_eq_true]
    | exact Lo.refl _
    | (refine Lo.eq ?_; simp only [Bool.decide_eq_true]; done)
    | refine ite_L (fun _ => ?_) (fun _ => ?_)
theorem d70 : Sound Try.prog ⟨70, false, Q70⟩ := sound_of ⟨_, Try.func70, by kernel_rfl, by kernel_rfl⟩ fun k args hp Z K z h => by
  unfold Q70 at h
  split at h
  · obtain ⟨r, hr, hK⟩ := Option.bind_eq_some_iff.1 h
    exact ⟨_, hK, g70 k _ _ _ _ _ _ r hr⟩
  · cases h
def o113 (l0 : List S93) (r : Int × Bool) : Out Rw := ⟨[.c (.sc (.i .i64 r.1)), .c (.sc (.b r.2))], [.rows 0 (.e93 l0)]⟩
def Q113 : Mean Rw := fun k a h Z K => match a, h with
  | [.w (.c (.rw 0)), .w (.c (.sc (.i .i64 a1))), .w (.c (.sc (.i .i64 a2)))], [.rows 0 (.e93 l0)] => (impl_balAt.f k l0 a1 a2).bind fun r => K (o113 l0 r)
  | _, _ => none
def O113 : List (Cal Rw) := [⟨92, false, Q92⟩]
theorem O113_ok : ∀ c ∈ O113, Sound Try.prog c := by
  intro c hc
  simp only [O113, List.mem_cons, List.not_mem_nil, or_false] at hc
  rcases hc with rfl
  · exact d92
def C113_0 : Nat → St Rw → Option (Out Rw) := fun k st => match st with
  | ⟨33, 1, 1, [(0, .w (.c (.rw 0))), (1, .w (.c (.sc (.i .i64 x1)))), (2, .w (.c (.sc (.i .i64 x2)))), (11, .w (.c (.rw 0))), (12, .w (.c (.sc (.i .i64 x12)))), (13, .w (.c (.sc (.i .i64 x13))))], [(0, .rows 0 (.e93 l0))]⟩ => (impl_balAt.l0 k l0 x1 x2 l0 x12 x13).bind fun r => some (o113 l0 r)
  | _ => none
def K113 : List (Cut Rw) := [⟨[false, true, false, true], [0, 1, 2, 11, 12, 13], C113_0⟩]
theorem e113_0 (k : Nat) (x1 : Int) (x2 : Int) (x12 : Int) (x13 : Int) (l0 : List S93) : Lo (seg Try.prog O113 K113 k (body Try.f113) (kEnd Try.prog Try.f113.results.toList) [false, true, false, true] ⟨33, 1, 1, [(0, .w (.c (.rw 0))), (1, .w (.c (.sc (.i .i64 x1)))), (2, .w (.c (.sc (.i .i64 x2)))), (11, .w (.c (.rw 0))), (12, .w (.c (.sc (.i .i64 x12)))), (13, .w (.c (.sc (.i .i64 x13))))], [(0, .rows 0 (.e93 l0))]⟩) ((impl_balAt.l0 (k + 1) l0 x1 x2 l0 x12 x13).bind fun r => some (o113 l0 r)) :=
  Lo.of (b := (if x13 < x12 then (if 0 ≤ x13 then (if x13 < (l0.length : Int) then ((impl_byBoth.f k (rd_T93 l0 x13).f0 (rd_T93 l0 x13).f1 x1 x2).bind fun r6 => (if r6 ≥ 0 then (some (o113 l0 (x13, decide (r6 = 0)))) else ((impl_balAt.l0 k l0 x1 x2 l0 x12 (RowKit.wrap64 (x13 + 1))).bind fun r => some (o113 l0 r)))) else none) else none) else (some (o113 l0 ((l0.length : Int), false))))) (by kernel_rfl) (by
    rw [impl_balAt.l0]
    repeat' first
    | with_reducible exact none_L
    | with_reducible refine let_L ?_
    | with_reducible refine some_L ?_
    | with_reducible refine ite_L (fun _ => ?_) (fun _ => ?_)
    | with_reducible refine bind_L (fun _ => ?_)
    | with_reducible refine drop_L (by first | assumption | omega) ?_
    | with_reducible refine ite_I (by omega) (fun _ => ?_) (fun _ => ?_)
    | rfl
    | simp only [Bool.decide_eq_true]
    | exact Lo.refl _
    | (refine Lo.eq ?_; simp only [Bool.decide_eq_true]; done)
    | refine ite_L (fun _ => ?_) (fun _ => ?_))
theorem h113_0 (k : Nat) (st : St Rw) (out : Out Rw) (h : C113_0 (k + 1) st = some out) : seg Try.prog O113 K113 k (body Try.f113) (kEnd Try.prog Try.f113.results.toList) [false, true, false, true] st = some out := by
  unfold C113_0 at h
  split at h
  · exact e113_0 _ _ _ _ _ _ out h
  · cases h
theorem z113_ok : ∀ c ∈ K113, ∀ st, c.f 0 st = none := by
  intro c hc st
  simp only [K113, List.mem_cons, List.not_mem_nil, or_false] at hc
  rcases hc with rfl
  · show C113_0 0 st = none; unfold C113_0; split <;> rfl
theorem h113_ok : ∀ c ∈ K113, ∀ k st out, c.f (k + 1) st = some out → seg Try.prog O113 K113 k (body Try.f113) (kEnd Try.prog Try.f113.results.toList) c.p st = some out := by
  intro c hc k st out h
  simp only [K113, List.mem_cons, List.not_mem_nil, or_false] at hc
  rcases hc with rfl
  · exact h113_0 k st out h
theorem g113 (k : Nat) (l0 : List (S93)) (a1 : Int) (a2 : Int) (r : Int × Bool) (h : impl_balAt.f k l0 a1 a2 = some r) : Good Try.prog 113 [.w (.c (.rw 0)), .w (.c (.sc (.i .i64 a1))), .w (.c (.sc (.i .i64 a2)))] [.rows 0 (.e93 l0)] (o113 l0 r) := by
  refine fn_ok (k := k) O113_ok mixed Try.func113 (root := body Try.f113) (by kernel_rfl) z113_ok h113_ok ?_
  refine Lo.of (b := ((impl_balAt.l0 k l0 a1 a2 l0 ((l0.length : Int)) 0).bind fun r => some (o113 l0 r))) (c := (impl_balAt.f k l0 a1 a2).bind fun r => some (o113 l0 r)) (by kernel_rfl) ?_ _ (by rw [h]; rfl)
  · unfold impl_balAt.f
    repeat' first
    | with_reducible exact none_L
    | with_reducible refine let_L ?_
    | with_reducible refine some_L ?_
    | with_reducible refine ite_L (fun _ => ?_) (fun _ => ?_)
    | with_reducible refine bind_L (fun _ => ?_)
    | with_reducible refine drop_L (by first | assumption | omega) ?_
    | with_reducible refine ite_I (by omega) (fun _ => ?_) (fun _ => ?_)
    | rfl
    | simp only [Bool.decide_eq_true]
    | exact Lo.refl _
    | (refine Lo.eq ?_; simp only [Bool.decide_eq_true]; done)
    | refine ite_L (fun _ => ?_) (fun _ => ?_)
theorem d113 : Sound Try.prog ⟨113, false, Q113⟩ := sound_of ⟨_, Try.func113, by kernel_rfl, by kernel_rfl⟩ fun k args hp Z K z h => by
  unfold Q113 at h
  split at h
  · obtain ⟨r, hr, hK⟩ := Option.bind_eq_some_iff.1 h
    exact ⟨_, hK, g113 k _ _ _ r hr⟩
  · cases h
def o102 (l0 : List S93) (r : Int) : Out Rw := ⟨[.c (.sc (.i .i64 r))], [.rows 0 (.e93 l0)]⟩
def Q102 : Mean Rw := fun k a h Z K => match a, h with
  | [.w (.c (.rw 0)), .w (.c (.sc (.i .i64 a1))), .w (.c (.sc (.i .i64 a2)))], [.rows 0 (.e93 l0)] => (impl_balOf.f k l0 a1 a2).bind fun r => K (o102 l0 r)
  | _, _ => none
def O102 : List (Cal Rw) := [⟨113, false, Q113⟩]
theorem O102_ok : ∀ c ∈ O102, Sound Try.prog c := by
  intro c hc
  simp only [O102, List.mem_cons, List.not_mem_nil, or_false] at hc
  rcases hc with rfl
  · exact d113
def K102 : List (Cut Rw) := []
theorem z102_ok : ∀ c ∈ K102, ∀ st, c.f 0 st = none := by
  intro c hc st
  simp only [K102, List.mem_cons, List.not_mem_nil, or_false] at hc
theorem h102_ok : ∀ c ∈ K102, ∀ k st out, c.f (k + 1) st = some out → seg Try.prog O102 K102 k (body Try.f102) (kEnd Try.prog Try.f102.results.toList) c.p st = some out := by
  intro c hc k st out h
  simp only [K102, List.mem_cons, List.not_mem_nil, or_false] at hc
theorem g102 (k : Nat) (l0 : List (S93)) (a1 : Int) (a2 : Int) (r : Int) (h : impl_balOf.f k l0 a1 a2 = some r) : Good Try.prog 102 [.w (.c (.rw 0)), .w (.c (.sc (.i .i64 a1))), .w (.c (.sc (.i .i64 a2)))] [.rows 0 (.e93 l0)] (o102 l0 r) := by
  refine fn_ok (k := k) O102_ok mixed Try.func102 (root := body Try.f102) (by kernel_rfl) z102_ok h102_ok ?_
  refine Lo.of (b := ((impl_balAt.f k l0 a1 a2).bind fun r4 => (if r4.2 = true then (if 0 ≤ r4.1 then (if r4.1 < (l0.length : Int) then (some (o102 l0 ((rd_T93 l0 r4.1).f2))) else none) else none) else (some (o102 l0 0))))) (c := (impl_balOf.f k l0 a1 a2).bind fun r => some (o102 l0 r)) (by kernel_rfl) ?_ _ (by rw [h]; rfl)
  · unfold impl_balOf.f
    repeat' first
    | with_reducible exact none_L
    | with_reducible refine let_L ?_
    | with_reducible refine some_L ?_
    | with_reducible refine ite_L (fun _ => ?_) (fun _ => ?_)
    | with_reducible refine bind_L (fun _ => ?_)
    | with_reducible refine drop_L (by first | assumption | omega) ?_
    | with_reducible refine ite_I (by omega) (fun _ => ?_) (fun _ => ?_)
    | rfl
    | simp only [Bool.decide_eq_true]
    | exact Lo.refl _
    | (refine Lo.eq ?_; simp only [Bool.decide_eq_true]; done)
    | refine ite_L (fun _ => ?_) (fun _ => ?_)
theorem d102 : Sound Try.prog ⟨102, false, Q102⟩ := sound_of ⟨_, Try.func102, by kernel_rfl, by kernel_rfl⟩ fun k args hp Z K z h => by
  unfold Q102 at h
  split at h
  · obtain ⟨r, hr, hK⟩ := Option.bind_eq_some_iff.1 h
    exact ⟨_, hK, g102 k _ _ _ r hr⟩
  · cases h
def o71 (l0_0 : List S88) (l0_1 : List S90) (l0_2 : List S93) (l0_3 : List S96) (l0_4 : List S50) (r : Bool) : Out Rw := ⟨[.c (.sc (.b r))], [.rows 0 (.e88 l0_0), .rows 0 (.e90 l0_1), .rows 0 (.e93 l0_2), .rows 0 (.e96 l0_3), .rows 0 (.e50 l0_4)]⟩
def Q71 : Mean Rw := fun k a h Z K => match a, h with
  | [.w (.ag [.rw 0, .rw 1, .rw 2, .rw 3, .rw 4, .sc (.i .i64 a0_5)])], [.rows 0 (.e88 l0_0), .rows 0 (.e90 l0_1), .rows 0 (.e93 l0_2), .rows 0 (.e96 l0_3), .rows 0 (.e50 l0_4)] => (impl_lotsRight.f k l0_0 l0_1 l0_2 l0_3 l0_4 a0_5).bind fun r => K (o71 l0_0 l0_1 l0_2 l0_3 l0_4 r)
  | _, _ => none
def O71 : List (Cal Rw) := [⟨99, false, Q99⟩, ⟨100, false, Q100⟩, ⟨98, false, Q98⟩, ⟨97, false, Q97⟩, ⟨102, false, Q102⟩]
theorem O71_ok : ∀ c ∈ O71, Sound Try.prog c := by
  intro c hc
  simp only [O71, List.mem_cons, List.not_mem_nil, or_false] at hc
  rcases hc with rfl | rfl | rfl | rfl | rfl
  · exact d99
  · exact d100
  · exact d98
  · exact d97
  · exact d102
def C71_0 : Nat → St Rw → Option (Out Rw) := fun k st => match st with
  | ⟨84, 5, 6, [(1, .pt 5 0), (12, .w (.c (.rw 3))), (13, .w (.c (.sc (.i .i64 x13)))), (14, .w (.c (.sc (.i .i64 x14))))], [(0, .rows 0 (.e88 l0_0)), (1, .rows 0 (.e90 l0_1)), (2, .rows 0 (.e93 l0_2)), (3, .rows 0 (.e96 l0_3)), (4, .rows 0 (.e50 l0_4)), (5, .box 34 [.rw 0, .rw 1, .rw 2, .rw 3, .rw 4, .sc (.i .i64 b5_5)])]⟩ => (impl_lotsRight.l0 k l0_3 x13 x14 l0_0 l0_1 l0_2 l0_3 l0_4 b5_5).bind fun r => some (o71 l0_0 l0_1 l0_2 l0_3 l0_4 r)
  | _ => none
def C71_1 : Nat → St Rw → Option (Out Rw) := fun k st => match st with
  | ⟨84, 5, 6, [(1, .pt 5 0), (41, .w (.c (.rw 0))), (42, .w (.c (.sc (.i .i64 x42)))), (43, .w (.c (.sc (.i .i64 x43))))], [(0, .rows 0 (.e88 l0_0)), (1, .rows 0 (.e90 l0_1)), (2, .rows 0 (.e93 l0_2)), (3, .rows 0 (.e96 l0_3)), (4, .rows 0 (.e50 l0_4)), (5, .box 34 [.rw 0, .rw 1, .rw 2, .rw 3, .rw 4, .sc (.i .i64 b5_5)])]⟩ => (impl_lotsRight.l1 k l0_0 x42 x43 l0_0 l0_1 l0_2 l0_3 l0_4 b5_5).bind fun r => some (o71 l0_0 l0_1 l0_2 l0_3 l0_4 r)
  | _ => none
def C71_2 : Nat → St Rw → Option (Out Rw) := fun k st => match st with
  | ⟨84, 5, 7, [(1, .pt 5 0), (6, .pt 6 0), (41, .w (.c (.rw 0))), (42, .w (.c (.sc (.i .i64 x42)))), (43, .w (.c (.sc (.i .i64 x43)))), (48, .w (.c (.rw 1))), (49, .w (.c (.sc (.i .i64 x49)))), (50, .w (.c (.sc (.i .i64 x50))))], [(0, .rows 0 (.e88 l0_0)), (1, .rows 0 (.e90 l0_1)), (2, .rows 0 (.e93 l0_2)), (3, .rows 0 (.e96 l0_3)), (4, .rows 0 (.e50 l0_4)), (5, .box 34 [.rw 0, .rw 1, .rw 2, .rw 3, .rw 4, .sc (.i .i64 b5_5)]), (6, .box 88 [.sc (.i .i64 b6_0), .sc (.i .i64 b6_1)])]⟩ => (impl_lotsRight.l2 k l0_0 x42 x43 l0_1 x49 x50 l0_0 l0_1 l0_2 l0_3 l0_4 b5_5 b6_0 b6_1).bind fun r => some (o71 l0_0 l0_1 l0_2 l0_3 l0_4 r)
  | _ => none
def C71_3 : Nat → St Rw → Option (Out Rw) := fun k st => match st with
  | ⟨84, 5, 8, [(1, .pt 5 0), (6, .pt 6 0), (8, .pt 7 0), (41, .w (.c (.rw 0))), (42, .w (.c (.sc (.i .i64 x42)))), (43, .w (.c (.sc (.i .i64 x43)))), (48, .w (.c (.rw 1))), (49, .w (.c (.sc (.i .i64 x49)))), (50, .w (.c (.sc (.i .i64 x50)))), (61, .w (.c (.sc (.b x61))))], [(0, .rows 0 (.e88 l0_0)), (1, .rows 0 (.e90 l0_1)), (2, .rows 0 (.e93 l0_2)), (3, .rows 0 (.e96 l0_3)), (4, .rows 0 (.e50 l0_4)), (5, .box 34 [.rw 0, .rw 1, .rw 2, .rw 3, .rw 4, .sc (.i .i64 b5_5)]), (6, .box 88 [.sc (.i .i64 b6_0), .sc (.i .i64 b6_1)]), (7, .box 90 [.sc (.i .i64 b7_0), .sc (.i .i64 b7_1)])]⟩ => (impl_lotsRight.j3 k l0_0 x42 x43 l0_1 x49 x50 x61 l0_0 l0_1 l0_2 l0_3 l0_4 b5_5 b6_0 b6_1 b7_0 b7_1).bind fun r => some (o71 l0_0 l0_1 l0_2 l0_3 l0_4 r)
  | _ => none
def K71 : List (Cut Rw) := [⟨[false, true, false, true], [1, 12, 13, 14], C71_0⟩, ⟨[false, true, false, true, true], [1, 41, 42, 43], C71_1⟩, ⟨[false, true, true, false, false, true, true, false, false, true, false, true, true], [1, 6, 41, 42, 43, 48, 49, 50], C71_2⟩, ⟨[true, false, true, false, false, true, true, false, false, true, true, false, false, true, true, false, false, true, false, true, true], [1, 6, 8, 41, 42, 43, 48, 49, 50, 61], C71_3⟩]
theorem e71_0 (k : Nat) (x13 : Int) (x14 : Int) (l0_0 : List S88) (l0_1 : List S90) (l0_2 : List S93) (l0_3 : List S96) (l0_4 : List S50) (b5_5 : Int) : Lo (seg Try.prog O71 K71 k (body Try.f71) (kEnd Try.prog Try.f71.results.toList) [false, true, false, true] ⟨84, 5, 6, [(1, .pt 5 0), (12, .w (.c (.rw 3))), (13, .w (.c (.sc (.i .i64 x13)))), (14, .w (.c (.sc (.i .i64 x14))))], [(0, .rows 0 (.e88 l0_0)), (1, .rows 0 (.e90 l0_1)), (2, .rows 0 (.e93 l0_2)), (3, .rows 0 (.e96 l0_3)), (4, .rows 0 (.e50 l0_4)), (5, .box 34 [.rw 0, .rw 1, .rw 2, .rw 3, .rw 4, .sc (.i .i64 b5_5)])]⟩) ((impl_lotsRight.l0 (k + 1) l0_3 x13 x14 l0_0 l0_1 l0_2 l0_3 l0_4 b5_5).bind fun r => some (o71 l0_0 l0_1 l0_2 l0_3 l0_4 r)) :=
  Lo.of (b := (if x14 < x13 then (if 0 ≤ x14 then (if x14 < (l0_3.length : Int) then ((impl_accountKind.f k l0_0 (rd_T96 l0_3 x14).f0).bind fun r9 => (if r9 = 1 then ((impl_instrKind.f k l0_1 (rd_T96 l0_3 x14).f1).bind fun r10 => (if r10 = 2 then (if (rd_T96 l0_3 x14).f2 > b5_5 then (some (o71 l0_0 l0_1 l0_2 l0_3 l0_4 false)) else ((impl_lotsRight.l0 k l0_3 x13 (RowKit.wrap64 (x14 + 1)) l0_0 l0_1 l0_2 l0_3 l0_4 b5_5).bind fun r => some (o71 l0_0 l0_1 l0_2 l0_3 l0_4 r))) else (some (o71 l0_0 l0_1 l0_2 l0_3 l0_4 false)))) else (some (o71 l0_0 l0_1 l0_2 l0_3 l0_4 false)))) else none) else none) else ((impl_lotsRight.l1 k l0_0 ((l0_0.length : Int)) 0 l0_0 l0_1 l0_2 l0_3 l0_4 b5_5).bind fun r => some (o71 l0_0 l0_1 l0_2 l0_3 l0_4 r)))) (by kernel_rfl) (by
    rw [impl_lotsRight.l0]
    repeat' first
    | with_reducible exact none_L
    | with_reducible refine let_L ?_
    | with_reducible refine some_L ?_
    | with_reducible refine ite_L (fun _ => ?_) (fun _ => ?_)
    | with_reducible refine bind_L (fun _ => ?_)
    | with_reducible refine drop_L (by first | assumption | omega) ?_
    | with_reducible refine ite_I (by omega) (fun _ => ?_) (fun _ => ?_)
    | rfl
    | simp only [Bool.decide_eq_true]
    | exact Lo.refl _
    | (refine Lo.eq ?_; simp only [Bool.decide_eq_true]; done)
    | refine ite_L (fun _ => ?_) (fun _ => ?_))
theorem h71_0 (k : Nat) (st : St Rw) (out : Out Rw) (h : C71_0 (k + 1) st = some out) : seg Try.prog O71 K71 k (body Try.f71) (kEnd Try.prog Try.f71.results.toList) [false, true, false, true] st = some out := by
  unfold C71_0 at h
  split at h
  · exact e71_0 _ _ _ _ _ _ _ _ _ out h
  · cases h
theorem e71_1 (k : Nat) (x42 : Int) (x43 : Int) (l0_0 : List S88) (l0_1 : List S90) (l0_2 : List S93) (l0_3 : List S96) (l0_4 : List S50) (b5_5 : Int) : Lo (seg Try.prog O71 K71 k (body Try.f71) (kEnd Try.prog Try.f71.results.toList) [false, true, false, true, true] ⟨84, 5, 6, [(1, .pt 5 0), (41, .w (.c (.rw 0))), (42, .w (.c (.sc (.i .i64 x42)))), (43, .w (.c (.sc (.i .i64 x43))))], [(0, .rows 0 (.e88 l0_0)), (1, .rows 0 (.e90 l0_1)), (2, .rows 0 (.e93 l0_2)), (3, .rows 0 (.e96 l0_3)), (4, .rows 0 (.e50 l0_4)), (5, .box 34 [.rw 0, .rw 1, .rw 2, .rw 3, .rw 4, .sc (.i .i64 b5_5)])]⟩) ((impl_lotsRight.l1 (k + 1) l0_0 x42 x43 l0_0 l0_1 l0_2 l0_3 l0_4 b5_5).bind fun r => some (o71 l0_0 l0_1 l0_2 l0_3 l0_4 r)) :=
  Lo.of (b := (if x43 < x42 then (if 0 ≤ x43 then (if x43 < (l0_0.length : Int) then ((impl_lotsRight.l2 k l0_0 x42 x43 l0_1 ((l0_1.length : Int)) 0 l0_0 l0_1 l0_2 l0_3 l0_4 b5_5 ((rd_T88 l0_0 x43).f0) ((rd_T88 l0_0 x43).f1)).bind fun r => some (o71 l0_0 l0_1 l0_2 l0_3 l0_4 r)) else none) else none) else (some (o71 l0_0 l0_1 l0_2 l0_3 l0_4 true)))) (by kernel_rfl) (by
    rw [impl_lotsRight.l1]
    repeat' first
    | with_reducible exact none_L
    | with_reducible refine let_L ?_
    | with_reducible refine some_L ?_
    | with_reducible refine ite_L (fun _ => ?_) (fun _ => ?_)
    | with_reducible refine bind_L (fun _ => ?_)
    | with_reducible refine drop_L (by first | assumption | omega) ?_
    | with_reducible refine ite_I (by omega) (fun _ => ?_) (fun _ => ?_)
    | rfl
    | simp only [Bool.decide_eq_true]
    | exact Lo.refl _
    | (refine Lo.eq ?_; simp only [Bool.decide_eq_true]; done)
    | refine ite_L (fun _ => ?_) (fun _ => ?_))
theorem h71_1 (k : Nat) (st : St Rw) (out : Out Rw) (h : C71_1 (k + 1) st = some out) : seg Try.prog O71 K71 k (body Try.f71) (kEnd Try.prog Try.f71.results.toList) [false, true, false, true, true] st = some out := by
  unfold C71_1 at h
  split at h
  · exact e71_1 _ _ _ _ _ _ _ _ _ out h
  · cases h
theorem e71_2 (k : Nat) (x42 : Int) (x43 : Int) (x49 : Int) (x50 : Int) (l0_0 : List S88) (l0_1 : List S90) (l0_2 : List S93) (l0_3 : List S96) (l0_4 : List S50) (b5_5 : Int) (b6_0 : Int) (b6_1 : Int) : Lo (seg Try.prog O71 K71 k (body Try.f71) (kEnd Try.prog Try.f71.results.toList) [false, true, true, false, false, true, true, false, false, true, false, true, true] ⟨84, 5, 7, [(1, .pt 5 0), (6, .pt 6 0), (41, .w (.c (.rw 0))), (42, .w (.c (.sc (.i .i64 x42)))), (43, .w (.c (.sc (.i .i64 x43)))), (48, .w (.c (.rw 1))), (49, .w (.c (.sc (.i .i64 x49)))), (50, .w (.c (.sc (.i .i64 x50))))], [(0, .rows 0 (.e88 l0_0)), (1, .rows 0 (.e90 l0_1)), (2, .rows 0 (.e93 l0_2)), (3, .rows 0 (.e96 l0_3)), (4, .rows 0 (.e50 l0_4)), (5, .box 34 [.rw 0, .rw 1, .rw 2, .rw 3, .rw 4, .sc (.i .i64 b5_5)]), (6, .box 88 [.sc (.i .i64 b6_0), .sc (.i .i64 b6_1)])]⟩) ((impl_lotsRight.l2 (k + 1) l0_0 x42 x43 l0_1 x49 x50 l0_0 l0_1 l0_2 l0_3 l0_4 b5_5 b6_0 b6_1).bind fun r => some (o71 l0_0 l0_1 l0_2 l0_3 l0_4 r)) :=
  Lo.of (b := (if x50 < x49 then (if 0 ≤ x50 then (if x50 < (l0_1.length : Int) then (if b6_1 = 1 then ((impl_lotsRight.j3 k l0_0 x42 x43 l0_1 x49 x50 (!decide ((rd_T90 l0_1 x50).f1 = 2)) l0_0 l0_1 l0_2 l0_3 l0_4 b5_5 b6_0 b6_1 ((rd_T90 l0_1 x50).f0) ((rd_T90 l0_1 x50).f1)).bind fun r => some (o71 l0_0 l0_1 l0_2 l0_3 l0_4 r)) else ((impl_lotsRight.j3 k l0_0 x42 x43 l0_1 x49 x50 true l0_0 l0_1 l0_2 l0_3 l0_4 b5_5 b6_0 b6_1 ((rd_T90 l0_1 x50).f0) ((rd_T90 l0_1 x50).f1)).bind fun r => some (o71 l0_0 l0_1 l0_2 l0_3 l0_4 r))) else none) else none) else ((impl_lotsRight.l1 k l0_0 x42 (RowKit.wrap64 (x43 + 1)) l0_0 l0_1 l0_2 l0_3 l0_4 b5_5).bind fun r => some (o71 l0_0 l0_1 l0_2 l0_3 l0_4 r)))) (by kernel_rfl) (by
    rw [impl_lotsRight.l2]
    repeat' first
    | with_reducible exact none_L
    | with_reducible refine let_L ?_
    | with_reducible refine some_L ?_
    | with_reducible refine ite_L (fun _ => ?_) (fun _ => ?_)
    | with_reducible refine bind_L (fun _ => ?_)
    | with_reducible refine drop_L (by first | assumption | omega) ?_
    | with_reducible refine ite_I (by omega) (fun _ => ?_) (fun _ => ?_)
    | rfl
    | simp only [Bool.decide_eq_true]
    | exact Lo.refl _
    | (refine Lo.eq ?_; simp only [Bool.decide_eq_true]; done)
    | refine ite_L (fun _ => ?_) (fun _ => ?_))
theorem h71_2 (k : Nat) (st : St Rw) (out : Out Rw) (h : C71_2 (k + 1) st = some out) : seg Try.prog O71 K71 k (body Try.f71) (kEnd Try.prog Try.f71.results.toList) [false, true, true, false, false, true, true, false, false, true, false, true, true] st = some out := by
  unfold C71_2 at h
  split at h
  · exact e71_2 _ _ _ _ _ _ _ _ _ _ _ _ _ out h
  · cases h
theorem e71_3 (k : Nat) (x42 : Int) (x43 : Int) (x49 : Int) (x50 : Int) (x61 : Bool) (l0_0 : List S88) (l0_1 : List S90) (l0_2 : List S93) (l0_3 : List S96) (l0_4 : List S50) (b5_5 : Int) (b6_0 : Int) (b6_1 : Int) (b7_0 : Int) (b7_1 : Int) : Lo (seg Try.prog O71 K71 k (body Try.f71) (kEnd Try.prog Try.f71.results.toList) [true, false, true, false, false, true, true, false, false, true, true, false, false, true, true, false, false, true, false, true, true] ⟨84, 5, 8, [(1, .pt 5 0), (6, .pt 6 0), (8, .pt 7 0), (41, .w (.c (.rw 0))), (42, .w (.c (.sc (.i .i64 x42)))), (43, .w (.c (.sc (.i .i64 x43)))), (48, .w (.c (.rw 1))), (49, .w (.c (.sc (.i .i64 x49)))), (50, .w (.c (.sc (.i .i64 x50)))), (61, .w (.c (.sc (.b x61))))], [(0, .rows 0 (.e88 l0_0)), (1, .rows 0 (.e90 l0_1)), (2, .rows 0 (.e93 l0_2)), (3, .rows 0 (.e96 l0_3)), (4, .rows 0 (.e50 l0_4)), (5, .box 34 [.rw 0, .rw 1, .rw 2, .rw 3, .rw 4, .sc (.i .i64 b5_5)]), (6, .box 88 [.sc (.i .i64 b6_0), .sc (.i .i64 b6_1)]), (7, .box 90 [.sc (.i .i64 b7_0), .sc (.i .i64 b7_1)])]⟩) ((impl_lotsRight.j3 (k + 1) l0_0 x42 x43 l0_1 x49 x50 x61 l0_0 l0_1 l0_2 l0_3 l0_4 b5_5 b6_0 b6_1 b7_0 b7_1).bind fun r => some (o71 l0_0 l0_1 l0_2 l0_3 l0_4 r)) :=
  Lo.of (b := (if x61 = true then ((impl_lotsRight.l2 k l0_0 x42 x43 l0_1 x49 (RowKit.wrap64 (x50 + 1)) l0_0 l0_1 l0_2 l0_3 l0_4 b5_5 b6_0 b6_1).bind fun r => some (o71 l0_0 l0_1 l0_2 l0_3 l0_4 r)) else ((impl_lotsOf.f l0_3 b6_0 b7_0).bind fun r16 => ((impl_sumLots.f k r16).bind fun r17 => ((impl_balOf.f k l0_2 b6_0 b7_0).bind fun r18 => (if r17.1 = r18 then ((impl_lotsRight.l2 k l0_0 x42 x43 l0_1 x49 (RowKit.wrap64 (x50 + 1)) l0_0 l0_1 l0_2 l0_3 l0_4 b5_5 b6_0 b6_1).bind fun r => some (o71 l0_0 l0_1 l0_2 l0_3 l0_4 r)) else (some (o71 l0_0 l0_1 l0_2 l0_3 l0_4 false)))))))) (by kernel_rfl) (by
    rw [impl_lotsRight.j3]
    repeat' first
    | with_reducible exact none_L
    | with_reducible refine let_L ?_
    | with_reducible refine some_L ?_
    | with_reducible refine ite_L (fun _ => ?_) (fun _ => ?_)
    | with_reducible refine bind_L (fun _ => ?_)
    | with_reducible refine drop_L (by first | assumption | omega) ?_
    | with_reducible refine ite_I (by omega) (fun _ => ?_) (fun _ => ?_)
    | rfl
    | simp only [Bool.decide_eq_true]
    | exact Lo.refl _
    | (refine Lo.eq ?_; simp only [Bool.decide_eq_true]; done)
    | refine ite_L (fun _ => ?_) (fun _ => ?_))
theorem h71_3 (k : Nat) (st : St Rw) (out : Out Rw) (h : C71_3 (k + 1) st = some out) : seg Try.prog O71 K71 k (body Try.f71) (kEnd Try.prog Try.f71.results.toList) [true, false, true, false, false, true, true, false, false, true, true, false, false, true, true, false, false, true, false, true, true] st = some out := by
  unfold C71_3 at h
  split at h
  · exact e71_3 _ _ _ _ _ _ _ _ _ _ _ _ _ _ _ _ out h
  · cases h
theorem z71_ok : ∀ c ∈ K71, ∀ st, c.f 0 st = none := by
  intro c hc st
  simp only [K71, List.mem_cons, List.not_mem_nil, or_false] at hc
  rcases hc with rfl | rfl | rfl | rfl
  · show C71_0 0 st = none; unfold C71_0; split <;> rfl
  · show C71_1 0 st = none; unfold C71_1; split <;> rfl
  · show C71_2 0 st = none; unfold C71_2; split <;> rfl
  · show C71_3 0 st = none; unfold C71_3; split <;> rfl
theorem h71_ok : ∀ c ∈ K71, ∀ k st out, c.f (k + 1) st = some out → seg Try.prog O71 K71 k (body Try.f71) (kEnd Try.prog Try.f71.results.toList) c.p st = some out := by
  intro c hc k st out h
  simp only [K71, List.mem_cons, List.not_mem_nil, or_false] at hc
  rcases hc with rfl | rfl | rfl | rfl
  · exact h71_0 k st out h
  · exact h71_1 k st out h
  · exact h71_2 k st out h
  · exact h71_3 k st out h
theorem g71 (k : Nat) (l0_0 : List (S88)) (l0_1 : List (S90)) (l0_2 : List (S93)) (l0_3 : List (S96)) (l0_4 : List (S50)) (a0_5 : Int) (r : Bool) (h : impl_lotsRight.f k l0_0 l0_1 l0_2 l0_3 l0_4 a0_5 = some r) : Good Try.prog 71 [.w (.ag [.rw 0, .rw 1, .rw 2, .rw 3, .rw 4, .sc (.i .i64 a0_5)])] [.rows 0 (.e88 l0_0), .rows 0 (.e90 l0_1), .rows 0 (.e93 l0_2), .rows 0 (.e96 l0_3), .rows 0 (.e50 l0_4)] (o71 l0_0 l0_1 l0_2 l0_3 l0_4 r) := by
  refine fn_ok (k := k) O71_ok mixed Try.func71 (root := body Try.f71) (by kernel_rfl) z71_ok h71_ok ?_
  refine Lo.of (b := ((impl_lotsRight.l0 k l0_3 ((l0_3.length : Int)) 0 l0_0 l0_1 l0_2 l0_3 l0_4 a0_5).bind fun r => some (o71 l0_0 l0_1 l0_2 l0_3 l0_4 r))) (c := (impl_lotsRight.f k l0_0 l0_1 l0_2 l0_3 l0_4 a0_5).bind fun r => some (o71 l0_0 l0_1 l0_2 l0_3 l0_4 r)) (by kernel_rfl) ?_ _ (by rw [h]; rfl)
  · unfold impl_lotsRight.f
    repeat' first
    | with_reducible exact none_L
    | with_reducible refine let_L ?_
    | with_reducible refine some_L ?_
    | with_reducible refine ite_L (fun _ => ?_) (fun _ => ?_)
    | with_reducible refine bind_L (fun _ => ?_)
    | with_reducible refine drop_L (by first | assumption | omega) ?_
    | with_reducible refine ite_I (by omega) (fun _ => ?_) (fun _ => ?_)
    | rfl
    | simp only [Bool.decide_eq_true]
    | exact Lo.refl _
    | (refine Lo.eq ?_; simp only [Bool.decide_eq_true]; done)
    | refine ite_L (fun _ => ?_) (fun _ => ?_)
theorem d71 : Sound Try.prog ⟨71, false, Q71⟩ := sound_of ⟨_, Try.func71, by kernel_rfl, by kernel_rfl⟩ fun k args hp Z K z h => by
  unfold Q71 at h
  split at h
  · obtain ⟨r, hr, hK⟩ := Option.bind_eq_some_iff.1 h
    exact ⟨_, hK, g71 k _ _ _ _ _ _ r hr⟩
  · cases h
def o21 (l0_0 : List S88) (l0_1 : List S90) (l0_2 : List S93) (l0_3 : List S96) (l0_4 : List S50) (r : Bool) : Out Rw := ⟨[.c (.sc (.b r))], [.rows 0 (.e88 l0_0), .rows 0 (.e90 l0_1), .rows 0 (.e93 l0_2), .rows 0 (.e96 l0_3), .rows 0 (.e50 l0_4)]⟩
def Q21 : Mean Rw := fun k a h Z K => match a, h with
  | [.w (.ag [.rw 0, .rw 1, .rw 2, .rw 3, .rw 4, .sc (.i .i64 a0_5)])], [.rows 0 (.e88 l0_0), .rows 0 (.e90 l0_1), .rows 0 (.e93 l0_2), .rows 0 (.e96 l0_3), .rows 0 (.e50 l0_4)] => (impl_BooksOk.f k l0_0 l0_1 l0_2 l0_3 l0_4 a0_5).bind fun r => K (o21 l0_0 l0_1 l0_2 l0_3 l0_4 r)
  | _, _ => none
def O21 : List (Cal Rw) := [⟨66, false, Q66⟩, ⟨67, false, Q67⟩, ⟨68, false, Q68⟩, ⟨69, false, Q69⟩, ⟨11, false, Q11⟩, ⟨35, false, Q35⟩, ⟨70, false, Q70⟩, ⟨71, false, Q71⟩, ⟨72, false, Q72⟩]
theorem O21_ok : ∀ c ∈ O21, Sound Try.prog c := by
  intro c hc
  simp only [O21, List.mem_cons, List.not_mem_nil, or_false] at hc
  rcases hc with rfl | rfl | rfl | rfl | rfl | rfl | rfl | rfl | rfl
  · exact d66
  · exact d67
  · exact d68
  · exact d69
  · exact d11
  · exact d35
  · exact d70
  · exact d71
  · exact d72
def C21_0 : Nat → St Rw → Option (Out Rw) := fun k st => match st with
  | ⟨47, 5, 6, [(1, .pt 5 0), (36, .w (.c (.sc (.b x36))))], [(0, .rows 0 (.e88 l0_0)), (1, .rows 0 (.e90 l0_1)), (2, .rows 0 (.e93 l0_2)), (3, .rows 0 (.e96 l0_3)), (4, .rows 0 (.e50 l0_4)), (5, .box 34 [.rw 0, .rw 1, .rw 2, .rw 3, .rw 4, .sc (.i .i64 b5_5)])]⟩ => (impl_BooksOk.j0 k x36 l0_0 l0_1 l0_2 l0_3 l0_4 b5_5).bind fun r => some (o21 l0_0 l0_1 l0_2 l0_3 l0_4 r)
  | _ => none
def K21 : List (Cut Rw) := [⟨[true, false, true], [1, 36], C21_0⟩]
theorem e21_0 (k : Nat) (x36 : Bool) (l0_0 : List S88) (l0_1 : List S90) (l0_2 : List S93) (l0_3 : List S96) (l0_4 : List S50) (b5_5 : Int) : Lo (seg Try.prog O21 K21 k (body Try.f21) (kEnd Try.prog Try.f21.results.toList) [true, false, true] ⟨47, 5, 6, [(1, .pt 5 0), (36, .w (.c (.sc (.b x36))))], [(0, .rows 0 (.e88 l0_0)), (1, .rows 0 (.e90 l0_1)), (2, .rows 0 (.e93 l0_2)), (3, .rows 0 (.e96 l0_3)), (4, .rows 0 (.e50 l0_4)), (5, .box 34 [.rw 0, .rw 1, .rw 2, .rw 3, .rw 4, .sc (.i .i64 b5_5)])]⟩) ((impl_BooksOk.j0 (k + 1) x36 l0_0 l0_1 l0_2 l0_3 l0_4 b5_5).bind fun r => some (o21 l0_0 l0_1 l0_2 l0_3 l0_4 r)) :=
  Lo.of (b := (if x36 = true then (some (o21 l0_0 l0_1 l0_2 l0_3 l0_4 false)) else ((impl_balsRight.f k l0_0 l0_1 l0_2 l0_3 l0_4 b5_5).bind fun r8 => (if r8 = true then ((impl_lotsRight.f k l0_0 l0_1 l0_2 l0_3 l0_4 b5_5).bind fun r9 => (if r9 = true then ((impl_tradesRight.f l0_0 l0_1 l0_2 l0_3 l0_4 b5_5).bind fun r10 => (some (o21 l0_0 l0_1 l0_2 l0_3 l0_4 r10))) else (some (o21 l0_0 l0_1 l0_2 l0_3 l0_4 false)))) else (some (o21 l0_0 l0_1 l0_2 l0_3 l0_4 false)))))) (by kernel_rfl) (by
    rw [impl_BooksOk.j0]
    repeat' first
    | with_reducible exact none_L
    | with_reducible refine let_L ?_
    | with_reducible refine some_L ?_
    | with_reducible refine ite_L (fun _ => ?_) (fun _ => ?_)
    | with_reducible refine bind_L (fun _ => ?_)
    | with_reducible refine drop_L (by first | assumption | omega) ?_
    | with_reducible refine ite_I (by omega) (fun _ => ?_) (fun _ => ?_)
    | rfl
    | simp only [Bool.decide_eq_true]
    | exact Lo.refl _
    | (refine Lo.eq ?_; simp only [Bool.decide_eq_true]; done)
    | refine ite_L (fun _ => ?_) (fun _ => ?_))
theorem h21_0 (k : Nat) (st : St Rw) (out : Out Rw) (h : C21_0 (k + 1) st = some out) : seg Try.prog O21 K21 k (body Try.f21) (kEnd Try.prog Try.f21.results.toList) [true, false, true] st = some out := by
  unfold C21_0 at h
  split at h
  · exact e21_0 _ _ _ _ _ _ _ _ out h
  · cases h
theorem z21_ok : ∀ c ∈ K21, ∀ st, c.f 0 st = none := by
  intro c hc st
  simp only [K21, List.mem_cons, List.not_mem_nil, or_false] at hc
  rcases hc with rfl
  · show C21_0 0 st = none; unfold C21_0; split <;> rfl
theorem h21_ok : ∀ c ∈ K21, ∀ k st out, c.f (k + 1) st = some out → seg Try.prog O21 K21 k (body Try.f21) (kEnd Try.prog Try.f21.results.toList) c.p st = some out := by
  intro c hc k st out h
  simp only [K21, List.mem_cons, List.not_mem_nil, or_false] at hc
  rcases hc with rfl
  · exact h21_0 k st out h
theorem g21 (k : Nat) (l0_0 : List (S88)) (l0_1 : List (S90)) (l0_2 : List (S93)) (l0_3 : List (S96)) (l0_4 : List (S50)) (a0_5 : Int) (r : Bool) (h : impl_BooksOk.f k l0_0 l0_1 l0_2 l0_3 l0_4 a0_5 = some r) : Good Try.prog 21 [.w (.ag [.rw 0, .rw 1, .rw 2, .rw 3, .rw 4, .sc (.i .i64 a0_5)])] [.rows 0 (.e88 l0_0), .rows 0 (.e90 l0_1), .rows 0 (.e93 l0_2), .rows 0 (.e96 l0_3), .rows 0 (.e50 l0_4)] (o21 l0_0 l0_1 l0_2 l0_3 l0_4 r) := by
  refine fn_ok (k := k) O21_ok mixed Try.func21 (root := body Try.f21) (by kernel_rfl) z21_ok h21_ok ?_
  refine Lo.of (b := ((impl_AccountsOk.f k l0_0).bind fun r7 => (if r7 = true then ((impl_InstrsOk.f k l0_1).bind fun r8 => (if r8 = true then ((impl_BalsOk.f k l0_2).bind fun r9 => (if r9 = true then ((impl_LotsOk.f l0_3).bind fun r10 => (if r10 = true then ((impl_TradesOk.f k l0_4).bind fun r11 => (if r11 = true then ((impl_in.f a0_5 0 1000000000).bind fun r12 => ((impl_BooksOk.j0 k (!decide (r12 = true)) l0_0 l0_1 l0_2 l0_3 l0_4 a0_5).bind fun r => some (o21 l0_0 l0_1 l0_2 l0_3 l0_4 r))) else ((impl_BooksOk.j0 k true l0_0 l0_1 l0_2 l0_3 l0_4 a0_5).bind fun r => some (o21 l0_0 l0_1 l0_2 l0_3 l0_4 r)))) else ((impl_BooksOk.j0 k true l0_0 l0_1 l0_2 l0_3 l0_4 a0_5).bind fun r => some (o21 l0_0 l0_1 l0_2 l0_3 l0_4 r)))) else ((impl_BooksOk.j0 k true l0_0 l0_1 l0_2 l0_3 l0_4 a0_5).bind fun r => some (o21 l0_0 l0_1 l0_2 l0_3 l0_4 r)))) else ((impl_BooksOk.j0 k true l0_0 l0_1 l0_2 l0_3 l0_4 a0_5).bind fun r => some (o21 l0_0 l0_1 l0_2 l0_3 l0_4 r)))) else ((impl_BooksOk.j0 k true l0_0 l0_1 l0_2 l0_3 l0_4 a0_5).bind fun r => some (o21 l0_0 l0_1 l0_2 l0_3 l0_4 r))))) (c := (impl_BooksOk.f k l0_0 l0_1 l0_2 l0_3 l0_4 a0_5).bind fun r => some (o21 l0_0 l0_1 l0_2 l0_3 l0_4 r)) (by kernel_rfl) ?_ _ (by rw [h]; rfl)
  · unfold impl_BooksOk.f
    repeat' first
    | with_reducible exact none_L
    | with_reducible refine let_L ?_
    | with_reducible refine some_L ?_
    | with_reducible refine ite_L (fun _ => ?_) (fun _ => ?_)
    | with_reducible refine bind_L (fun _ => ?_)
    | with_reducible refine drop_L (by first | assumption | omega) ?_
    | with_reducible refine ite_I (by omega) (fun _ => ?_) (fun _ => ?_)
    | rfl
    | simp only [Bool.decide_eq_true]
    | exact Lo.refl _
    | (refine Lo.eq ?_; simp only [Bool.decide_eq_true]; done)
    | refine ite_L (fun _ => ?_) (fun _ => ?_)
theorem d21 : Sound Try.prog ⟨21, false, Q21⟩ := sound_of ⟨_, Try.func21, by kernel_rfl, by kernel_rfl⟩ fun k args hp Z K z h => by
  unfold Q21 at h
  split at h
  · obtain ⟨r, hr, hK⟩ := Option.bind_eq_some_iff.1 h
    exact ⟨_, hK, g21 k _ _ _ _ _ _ r hr⟩
  · cases h
def o73 (l0_0 : List S88) (l0_1 : List S90) (l0_2 : List S93) (l0_3 : List S96) (l0_4 : List S50) (r : Int) : Out Rw := ⟨[.c (.sc (.i .i64 r))], [.rows 0 (.e88 l0_0), .rows 0 (.e90 l0_1), .rows 0 (.e93 l0_2), .rows 0 (.e96 l0_3), .rows 0 (.e50 l0_4)]⟩
def Q73 : Mean Rw := fun k a h Z K => match a, h with
  | [.w (.ag [.rw 0, .rw 1, .rw 2, .rw 3, .rw 4, .sc (.i .i64 a0_5)]), .w (.c (.sc (.i .i64 a1)))], [.rows 0 (.e88 l0_0), .rows 0 (.e90 l0_1), .rows 0 (.e93 l0_2), .rows 0 (.e96 l0_3), .rows 0 (.e50 l0_4)] => (spec_l7Find.f k l0_0 l0_1 l0_2 l0_3 l0_4 a0_5 a1).bind fun r => K (o73 l0_0 l0_1 l0_2 l0_3 l0_4 r)
  | _, _ => none
def O73 : List (Cal Rw) := []
theorem O73_ok : ∀ c ∈ O73, Sound Try.prog c := by
  intro c hc
  simp only [O73, List.mem_cons, List.not_mem_nil, or_false] at hc
def C73_0 : Nat → St Rw → Option (Out Rw) := fun k st => match st with
  | ⟨22, 5, 6, [(1, .w (.c (.sc (.i .i64 x1)))), (2, .pt 5 0), (5, .w (.c (.sc (.i .i64 x5))))], [(0, .rows 0 (.e88 l0_0)), (1, .rows 0 (.e90 l0_1)), (2, .rows 0 (.e93 l0_2)), (3, .rows 0 (.e96 l0_3)), (4, .rows 0 (.e50 l0_4)), (5, .box 34 [.rw 0, .rw 1, .rw 2, .rw 3, .rw 4, .sc (.i .i64 b5_5)])]⟩ => (spec_l7Find.l0 k x1 x5 l0_0 l0_1 l0_2 l0_3 l0_4 b5_5).bind fun r => some (o73 l0_0 l0_1 l0_2 l0_3 l0_4 r)
  | _ => none
def K73 : List (Cut Rw) := [⟨[false, true, false, true], [1, 2, 5], C73_0⟩]
theorem e73_0 (k : Nat) (x1 : Int) (x5 : Int) (l0_0 : List S88) (l0_1 : List S90) (l0_2 : List S93) (l0_3 : List S96) (l0_4 : List S50) (b5_5 : Int) : Lo (seg Try.prog O73 K73 k (body Try.f73) (kEnd Try.prog Try.f73.results.toList) [false, true, false, true] ⟨22, 5, 6, [(1, .w (.c (.sc (.i .i64 x1)))), (2, .pt 5 0), (5, .w (.c (.sc (.i .i64 x5))))], [(0, .rows 0 (.e88 l0_0)), (1, .rows 0 (.e90 l0_1)), (2, .rows 0 (.e93 l0_2)), (3, .rows 0 (.e96 l0_3)), (4, .rows 0 (.e50 l0_4)), (5, .box 34 [.rw 0, .rw 1, .rw 2, .rw 3, .rw 4, .sc (.i .i64 b5_5)])]⟩) ((spec_l7Find.l0 (k + 1) x1 x5 l0_0 l0_1 l0_2 l0_3 l0_4 b5_5).bind fun r => some (o73 l0_0 l0_1 l0_2 l0_3 l0_4 r)) :=
  Lo.of (b := (if x5 < (l0_4.length : Int) then (if 0 ≤ x5 then (if x5 < (l0_4.length : Int) then (if (rd_T50 l0_4 x5).f0 = x1 then (some (o73 l0_0 l0_1 l0_2 l0_3 l0_4 x5)) else ((spec_l7Find.l0 k x1 (RowKit.wrap64 (x5 + 1)) l0_0 l0_1 l0_2 l0_3 l0_4 b5_5).bind fun r => some (o73 l0_0 l0_1 l0_2 l0_3 l0_4 r))) else none) else none) else (some (o73 l0_0 l0_1 l0_2 l0_3 l0_4 (-1))))) (by kernel_rfl) (by
    rw [spec_l7Find.l0]
    repeat' first
    | with_reducible exact none_L
    | with_reducible refine let_L ?_
    | with_reducible refine some_L ?_
    | with_reducible refine ite_L (fun _ => ?_) (fun _ => ?_)
    | with_reducible refine bind_L (fun _ => ?_)
    | with_reducible refine drop_L (by first | assumption | omega) ?_
    | with_reducible refine ite_I (by omega) (fun _ => ?_) (fun _ => ?_)
    | rfl
    | simp only [Bool.decide_eq_true]
    | exact Lo.refl _
    | (refine Lo.eq ?_; simp only [Bool.decide_eq_true]; done)
    | refine ite_L (fun _ => ?_) (fun _ => ?_))
theorem h73_0 (k : Nat) (st : St Rw) (out : Out Rw) (h : C73_0 (k + 1) st = some out) : seg Try.prog O73 K73 k (body Try.f73) (kEnd Try.prog Try.f73.results.toList) [false, true, false, true] st = some out := by
  unfold C73_0 at h
  split at h
  · exact e73_0 _ _ _ _ _ _ _ _ _ out h
  · cases h
theorem z73_ok : ∀ c ∈ K73, ∀ st, c.f 0 st = none := by
  intro c hc st
  simp only [K73, List.mem_cons, List.not_mem_nil, or_false] at hc
  rcases hc with rfl
  · show C73_0 0 st = none; unfold C73_0; split <;> rfl
theorem h73_ok : ∀ c ∈ K73, ∀ k st out, c.f (k + 1) st = some out → seg Try.prog O73 K73 k (body Try.f73) (kEnd Try.prog Try.f73.results.toList) c.p st = some out := by
  intro c hc k st out h
  simp only [K73, List.mem_cons, List.not_mem_nil, or_false] at hc
  rcases hc with rfl
  · exact h73_0 k st out h
theorem g73 (k : Nat) (l0_0 : List (S88)) (l0_1 : List (S90)) (l0_2 : List (S93)) (l0_3 : List (S96)) (l0_4 : List (S50)) (a0_5 : Int) (a1 : Int) (r : Int) (h : spec_l7Find.f k l0_0 l0_1 l0_2 l0_3 l0_4 a0_5 a1 = some r) : Good Try.prog 73 [.w (.ag [.rw 0, .rw 1, .rw 2, .rw 3, .rw 4, .sc (.i .i64 a0_5)]), .w (.c (.sc (.i .i64 a1)))] [.rows 0 (.e88 l0_0), .rows 0 (.e90 l0_1), .rows 0 (.e93 l0_2), .rows 0 (.e96 l0_3), .rows 0 (.e50 l0_4)] (o73 l0_0 l0_1 l0_2 l0_3 l0_4 r) := by
  refine fn_ok (k := k) O73_ok mixed Try.func73 (root := body Try.f73) (by kernel_rfl) z73_ok h73_ok ?_
  refine Lo.of (b := ((spec_l7Find.l0 k a1 0 l0_0 l0_1 l0_2 l0_3 l0_4 a0_5).bind fun r => some (o73 l0_0 l0_1 l0_2 l0_3 l0_4 r))) (c := (spec_l7Find.f k l0_0 l0_1 l0_2 l0_3 l0_4 a0_5 a1).bind fun r => some (o73 l0_0 l0_1 l0_2 l0_3 l0_4 r)) (by kernel_rfl) ?_ _ (by rw [h]; rfl)
  · unfold spec_l7Find.f
    repeat' first
    | with_reducible exact none_L
    | with_reducible refine let_L ?_
    | with_reducible refine some_L ?_
    | with_reducible refine ite_L (fun _ => ?_) (fun _ => ?_)
    | with_reducible refine bind_L (fun _ => ?_)
    | with_reducible refine drop_L (by first | assumption | omega) ?_
    | with_reducible refine ite_I (by omega) (fun _ => ?_) (fun _ => ?_)
    | rfl
    | simp only [Bool.decide_eq_true]
    | exact Lo.refl _
    | (refine Lo.eq ?_; simp only [Bool.decide_eq_true]; done)
    | refine ite_L (fun _ => ?_) (fun _ => ?_)
theorem d73 : Sound Try.prog ⟨73, false, Q73⟩ := sound_of ⟨_, Try.func73, by kernel_rfl, by kernel_rfl⟩ fun k args hp Z K z h => by
  unfold Q73 at h
  split at h
  · obtain ⟨r, hr, hK⟩ := Option.bind_eq_some_iff.1 h
    exact ⟨_, hK, g73 k _ _ _ _ _ _ _ r hr⟩
  · cases h
def o22 (l0_0 : List S88) (l0_1 : List S90) (l0_2 : List S93) (l0_3 : List S96) (l0_4 : List S50) (r : Int × Int × Int × Int × Int × Int × Int × Int × Bool) : Out Rw := ⟨[.ag [.sc (.i .i64 r.1), .sc (.i .i64 r.2.1), .sc (.i .i64 r.2.2.1), .sc (.i .i64 r.2.2.2.1), .sc (.i .i64 r.2.2.2.2.1), .sc (.i .i64 r.2.2.2.2.2.1), .sc (.i .i64 r.2.2.2.2.2.2.1), .sc (.i .i64 r.2.2.2.2.2.2.2.1)], .c (.sc (.b r.2.2.2.2.2.2.2.2))], [.rows 0 (.e88 l0_0), .rows 0 (.e90 l0_1), .rows 0 (.e93 l0_2), .rows 0 (.e96 l0_3), .rows 0 (.e50 l0_4)]⟩
def Q22 : Mean Rw := fun k a h Z K => match a, h with
  | [.w (.ag [.rw 0, .rw 1, .rw 2, .rw 3, .rw 4, .sc (.i .i64 a0_5)]), .w (.c (.sc (.i .i64 a1)))], [.rows 0 (.e88 l0_0), .rows 0 (.e90 l0_1), .rows 0 (.e93 l0_2), .rows 0 (.e96 l0_3), .rows 0 (.e50 l0_4)] => (spec_TradeOf.f k l0_0 l0_1 l0_2 l0_3 l0_4 a0_5 a1).bind fun r => K (o22 l0_0 l0_1 l0_2 l0_3 l0_4 r)
  | _, _ => none
def O22 : List (Cal Rw) := [⟨73, false, Q73⟩, ⟨19, false, Q19⟩]
theorem O22_ok : ∀ c ∈ O22, Sound Try.prog c := by
  intro c hc
  simp only [O22, List.mem_cons, List.not_mem_nil, or_false] at hc
  rcases hc with rfl | rfl
  · exact d73
  · exact d19
def K22 : List (Cut Rw) := []
theorem z22_ok : ∀ c ∈ K22, ∀ st, c.f 0 st = none := by
  intro c hc st
  simp only [K22, List.mem_cons, List.not_mem_nil, or_false] at hc
theorem h22_ok : ∀ c ∈ K22, ∀ k st out, c.f (k + 1) st = some out → seg Try.prog O22 K22 k (body Try.f22) (kEnd Try.prog Try.f22.results.toList) c.p st = some out := by
  intro c hc k st out h
  simp only [K22, List.mem_cons, List.not_mem_nil, or_false] at hc
theorem g22 (k : Nat) (l0_0 : List (S88)) (l0_1 : List (S90)) (l0_2 : List (S93)) (l0_3 : List (S96)) (l0_4 : List (S50)) (a0_5 : Int) (a1 : Int) (r : Int × Int × Int × Int × Int × Int × Int × Int × Bool) (h : spec_TradeOf.f k l0_0 l0_1 l0_2 l0_3 l0_4 a0_5 a1 = some r) : Good Try.prog 22 [.w (.ag [.rw 0, .rw 1, .rw 2, .rw 3, .rw 4, .sc (.i .i64 a0_5)]), .w (.c (.sc (.i .i64 a1)))] [.rows 0 (.e88 l0_0), .rows 0 (.e90 l0_1), .rows 0 (.e93 l0_2), .rows 0 (.e96 l0_3), .rows 0 (.e50 l0_4)] (o22 l0_0 l0_1 l0_2 l0_3 l0_4 r) := by
  refine fn_ok (k := k) O22_ok mixed Try.func22 (root := body Try.f22) (by kernel_rfl) z22_ok h22_ok ?_
  refine Lo.of (b := ((spec_l7Find.f k l0_0 l0_1 l0_2 l0_3 l0_4 a0_5 a1).bind fun r8 => (if r8 < 0 then (some (o22 l0_0 l0_1 l0_2 l0_3 l0_4 (0, 0, 0, 0, 0, 0, 0, 0, false))) else ((spec_BooksOk.f k l0_0 l0_1 l0_2 l0_3 l0_4 a0_5).bind fun r9 => (if r9 = true then (if 0 ≤ r8 then (if r8 < (l0_4.length : Int) then (some (o22 l0_0 l0_1 l0_2 l0_3 l0_4 ((rd_T50 l0_4 r8).f0, (rd_T50 l0_4 r8).f1, (rd_T50 l0_4 r8).f2, (rd_T50 l0_4 r8).f3, (rd_T50 l0_4 r8).f4, (rd_T50 l0_4 r8).f5, (rd_T50 l0_4 r8).f6, (rd_T50 l0_4 r8).f7, true))) else none) else none) else (some (o22 l0_0 l0_1 l0_2 l0_3 l0_4 (0, 0, 0, 0, 0, 0, 0, 0, false)))))))) (c := (spec_TradeOf.f k l0_0 l0_1 l0_2 l0_3 l0_4 a0_5 a1).bind fun r => some (o22 l0_0 l0_1 l0_2 l0_3 l0_4 r)) (by kernel_rfl) ?_ _ (by rw [h]; rfl)
  · unfold spec_TradeOf.f
    repeat' first
    | with_reducible exact none_L
    | with_reducible refine let_L ?_
    | with_reducible refine some_L ?_
    | with_reducible refine ite_L (fun _ => ?_) (fun _ => ?_)
    | with_reducible refine bind_L (fun _ => ?_)
    | with_reducible refine drop_L (by first | assumption | omega) ?_
    | with_reducible refine ite_I (by omega) (fun _ => ?_) (fun _ => ?_)
    | rfl
    | simp only [Bool.decide_eq_true]
    | exact Lo.refl _
    | (refine Lo.eq ?_; simp only [Bool.decide_eq_true]; done)
    | refine ite_L (fun _ => ?_) (fun _ => ?_)
theorem d22 : Sound Try.prog ⟨22, false, Q22⟩ := sound_of ⟨_, Try.func22, by kernel_rfl, by kernel_rfl⟩ fun k args hp Z K z h => by
  unfold Q22 at h
  split at h
  · obtain ⟨r, hr, hK⟩ := Option.bind_eq_some_iff.1 h
    exact ⟨_, hK, g22 k _ _ _ _ _ _ _ r hr⟩
  · cases h
def o23 (l0_0 : List S88) (l0_1 : List S90) (l0_2 : List S93) (l0_3 : List S96) (l0_4 : List S50) (r : Int × Int × Int × Int × Int × Int × Int × Int × Bool) : Out Rw := ⟨[.ag [.sc (.i .i64 r.1), .sc (.i .i64 r.2.1), .sc (.i .i64 r.2.2.1), .sc (.i .i64 r.2.2.2.1), .sc (.i .i64 r.2.2.2.2.1), .sc (.i .i64 r.2.2.2.2.2.1), .sc (.i .i64 r.2.2.2.2.2.2.1), .sc (.i .i64 r.2.2.2.2.2.2.2.1)], .c (.sc (.b r.2.2.2.2.2.2.2.2))], [.rows 0 (.e88 l0_0), .rows 0 (.e90 l0_1), .rows 0 (.e93 l0_2), .rows 0 (.e96 l0_3), .rows 0 (.e50 l0_4)]⟩
def Q23 : Mean Rw := fun k a h Z K => match a, h with
  | [.w (.ag [.rw 0, .rw 1, .rw 2, .rw 3, .rw 4, .sc (.i .i64 a0_5)]), .w (.c (.sc (.i .i64 a1)))], [.rows 0 (.e88 l0_0), .rows 0 (.e90 l0_1), .rows 0 (.e93 l0_2), .rows 0 (.e96 l0_3), .rows 0 (.e50 l0_4)] => (impl_TradeOf.f k l0_0 l0_1 l0_2 l0_3 l0_4 a0_5 a1).bind fun r => K (o23 l0_0 l0_1 l0_2 l0_3 l0_4 r)
  | _, _ => none
def O23 : List (Cal Rw) := [⟨74, false, Q74⟩, ⟨21, false, Q21⟩]
theorem O23_ok : ∀ c ∈ O23, Sound Try.prog c := by
  intro c hc
  simp only [O23, List.mem_cons, List.not_mem_nil, or_false] at hc
  rcases hc with rfl | rfl
  · exact d74
  · exact d21
def K23 : List (Cut Rw) := []
theorem z23_ok : ∀ c ∈ K23, ∀ st, c.f 0 st = none := by
  intro c hc st
  simp only [K23, List.mem_cons, List.not_mem_nil, or_false] at hc
theorem h23_ok : ∀ c ∈ K23, ∀ k st out, c.f (k + 1) st = some out → seg Try.prog O23 K23 k (body Try.f23) (kEnd Try.prog Try.f23.results.toList) c.p st = some out := by
  intro c hc k st out h
  simp only [K23, List.mem_cons, List.not_mem_nil, or_false] at hc
theorem g23 (k : Nat) (l0_0 : List (S88)) (l0_1 : List (S90)) (l0_2 : List (S93)) (l0_3 : List (S96)) (l0_4 : List (S50)) (a0_5 : Int) (a1 : Int) (r : Int × Int × Int × Int × Int × Int × Int × Int × Bool) (h : impl_TradeOf.f k l0_0 l0_1 l0_2 l0_3 l0_4 a0_5 a1 = some r) : Good Try.prog 23 [.w (.ag [.rw 0, .rw 1, .rw 2, .rw 3, .rw 4, .sc (.i .i64 a0_5)]), .w (.c (.sc (.i .i64 a1)))] [.rows 0 (.e88 l0_0), .rows 0 (.e90 l0_1), .rows 0 (.e93 l0_2), .rows 0 (.e96 l0_3), .rows 0 (.e50 l0_4)] (o23 l0_0 l0_1 l0_2 l0_3 l0_4 r) := by
  refine fn_ok (k := k) O23_ok mixed Try.func23 (root := body Try.f23) (by kernel_rfl) z23_ok h23_ok ?_
  refine Lo.of (b := ((impl_tradeAt.f l0_0 l0_1 l0_2 l0_3 l0_4 a0_5 a1).bind fun r8 => (if r8 < 0 then (some (o23 l0_0 l0_1 l0_2 l0_3 l0_4 (0, 0, 0, 0, 0, 0, 0, 0, false))) else ((impl_BooksOk.f k l0_0 l0_1 l0_2 l0_3 l0_4 a0_5).bind fun r9 => (if r9 = true then (if 0 ≤ r8 then (if r8 < (l0_4.length : Int) then (some (o23 l0_0 l0_1 l0_2 l0_3 l0_4 ((rd_T50 l0_4 r8).f0, (rd_T50 l0_4 r8).f1, (rd_T50 l0_4 r8).f2, (rd_T50 l0_4 r8).f3, (rd_T50 l0_4 r8).f4, (rd_T50 l0_4 r8).f5, (rd_T50 l0_4 r8).f6, (rd_T50 l0_4 r8).f7, true))) else none) else none) else (some (o23 l0_0 l0_1 l0_2 l0_3 l0_4 (0, 0, 0, 0, 0, 0, 0, 0, false)))))))) (c := (impl_TradeOf.f k l0_0 l0_1 l0_2 l0_3 l0_4 a0_5 a1).bind fun r => some (o23 l0_0 l0_1 l0_2 l0_3 l0_4 r)) (by kernel_rfl) ?_ _ (by rw [h]; rfl)
  · unfold impl_TradeOf.f
    repeat' first
    | with_reducible exact none_L
    | with_reducible refine let_L ?_
    | with_reducible refine some_L ?_
    | with_reducible refine ite_L (fun _ => ?_) (fun _ => ?_)
    | with_reducible refine bind_L (fun _ => ?_)
    | with_reducible refine drop_L (by first | assumption | omega) ?_
    | with_reducible refine ite_I (by omega) (fun _ => ?_) (fun _ => ?_)
    | rfl
    | simp only [Bool.decide_eq_true]
    | exact Lo.refl _
    | (refine Lo.eq ?_; simp only [Bool.decide_eq_true]; done)
    | refine ite_L (fun _ => ?_) (fun _ => ?_)
theorem d23 : Sound Try.prog ⟨23, false, Q23⟩ := sound_of ⟨_, Try.func23, by kernel_rfl, by kernel_rfl⟩ fun k args hp Z K z h => by
  unfold Q23 at h
  split at h
  · obtain ⟨r, hr, hK⟩ := Option.bind_eq_some_iff.1 h
    exact ⟨_, hK, g23 k _ _ _ _ _ _ _ r hr⟩
  · cases h
def o6 (l0_0 : List S106) (l0_1 : List S108) (l0_2 : List S110) (l0_3 : List S112) (l0_4 : List S64) (r : Bool) : Out Rw := ⟨[.c (.sc (.b r))], [.rows 0 (.e106 l0_0), .rows 0 (.e108 l0_1), .rows 0 (.e110 l0_2), .rows 0 (.e112 l0_3), .rows 0 (.e64 l0_4)]⟩
def O6 : List (Cal Rw) := [⟨18, false, Q18⟩, ⟨20, false, Q20⟩, ⟨22, false, Q22⟩, ⟨23, false, Q23⟩, ⟨24, false, Q24⟩, ⟨15, false, Q15⟩]
theorem O6_ok : ∀ c ∈ O6, Sound Try.prog c := by
  intro c hc
  simp only [O6, List.mem_cons, List.not_mem_nil, or_false] at hc
  rcases hc with rfl | rfl | rfl | rfl | rfl | rfl
  · exact d18
  · exact d20
  · exact d22
  · exact d23
  · exact d24
  · exact d15
def C6_0 : Nat → St Rw → Option (Out Rw) := fun k st => match st with
  | ⟨45, 5, 12, [(2, .pt 5 0), (8, .pt 6 0), (39, .w (.c (.sc (.b x39))))], [(0, .rows 0 (.e106 l0_0)), (1, .rows 0 (.e108 l0_1)), (2, .rows 0 (.e110 l0_2)), (3, .rows 0 (.e112 l0_3)), (4, .rows 0 (.e64 l0_4)), (5, .box 44 [.rw 0, .rw 1, .rw 2, .rw 3, .rw 4, .sc (.i .i64 b5_5)]), (6, .box 34 [.rw 7, .rw 8, .rw 9, .rw 10, .rw 11, .sc (.i .i64 b6_5)]), (7, .rows 2 (.e88 y7)), (8, .rows 2 (.e90 y8)), (9, .rows 2 (.e93 y9)), (10, .rows 2 (.e96 y10)), (11, .rows 2 (.e50 y11))]⟩ => (laws_FnExactTradeOf.j0 k x39 l0_0 l0_1 l0_2 l0_3 l0_4 b5_5 y7 y8 y9 y10 y11 b6_5).bind fun r => some (o6 l0_0 l0_1 l0_2 l0_3 l0_4 r)
  | _ => none
def K6 : List (Cut Rw) := [⟨[true, false, true, true, true, true, true, true, true], [2, 8, 39], C6_0⟩]
theorem e6_0 (k : Nat) (x39 : Bool) (l0_0 : List S106) (l0_1 : List S108) (l0_2 : List S110) (l0_3 : List S112) (l0_4 : List S64) (b5_5 : Int) (b6_5 : Int) (y7 : List S88) (y8 : List S90) (y9 : List S93) (y10 : List S96) (y11 : List S50) : Lo (seg Try.prog O6 K6 k (body Try.f6) (kEnd Try.prog Try.f6.results.toList) [true, false, true, true, true, true, true, true, true] ⟨45, 5, 12, [(2, .pt 5 0), (8, .pt 6 0), (39, .w (.c (.sc (.b x39))))], [(0, .rows 0 (.e106 l0_0)), (1, .rows 0 (.e108 l0_1)), (2, .rows 0 (.e110 l0_2)), (3, .rows 0 (.e112 l0_3)), (4, .rows 0 (.e64 l0_4)), (5, .box 44 [.rw 0, .rw 1, .rw 2, .rw 3, .rw 4, .sc (.i .i64 b5_5)]), (6, .box 34 [.rw 7, .rw 8, .rw 9, .rw 10, .rw 11, .sc (.i .i64 b6_5)]), (7, .rows 2 (.e88 y7)), (8, .rows 2 (.e90 y8)), (9, .rows 2 (.e93 y9)), (10, .rows 2 (.e96 y10)), (11, .rows 2 (.e50 y11))]⟩) ((laws_FnExactTradeOf.j0 (k + 1) x39 l0_0 l0_1 l0_2 l0_3 l0_4 b5_5 y7 y8 y9 y10 y11 b6_5).bind fun r => some (o6 l0_0 l0_1 l0_2 l0_3 l0_4 r)) :=
  Lo.of (b := (if x39 = true then (some (o6 l0_0 l0_1 l0_2 l0_3 l0_4 false)) else ((laws_toBooks.f k l0_0 l0_1 l0_2 l0_3 l0_4 b5_5).bind fun r14 => ((laws_eqBooks.f k y7 y8 y9 y10 y11 b6_5 r14.1 r14.2.1 r14.2.2.1 r14.2.2.2.1 r14.2.2.2.2.1 r14.2.2.2.2.2).bind fun r15 => (if r15 = true then (some (o6 l0_0 l0_1 l0_2 l0_3 l0_4 true)) else (some (o6 l0_0 l0_1 l0_2 l0_3 l0_4 false))))))) (by kernel_rfl) (by
    rw [laws_FnExactTradeOf.j0]
    repeat' first
    | with_reducible exact none_L
    | with_reducible refine let_L ?_
    | with_reducible refine some_L ?_
    | with_reducible refine ite_L (fun _ => ?_) (fun _ => ?_)
    | with_reducible refine bind_L (fun _ => ?_)
    | with_reducible refine drop_L (by first | assumption | omega) ?_
    | with_reducible refine ite_I (by omega) (fun _ => ?_) (fun _ => ?_)
    | rfl
    | simp only [Bool.decide_eq_true]
    | exact Lo.refl _
    | (refine Lo.eq ?_; simp only [Bool.decide_eq_true]; done)
    | refine ite_L (fun _ => ?_) (fun _ => ?_))
theorem h6_0 (k : Nat) (st : St Rw) (out : Out Rw) (h : C6_0 (k + 1) st = some out) : seg Try.prog O6 K6 k (body Try.f6) (kEnd Try.prog Try.f6.results.toList) [true, false, true, true, true, true, true, true, true] st = some out := by
  unfold C6_0 at h
  split at h
  · exact e6_0 _ _ _ _ _ _ _ _ _ _ _ _ _ _ out h
  · cases h
theorem z6_ok : ∀ c ∈ K6, ∀ st, c.f 0 st = none := by
  intro c hc st
  simp only [K6, List.mem_cons, List.not_mem_nil, or_false] at hc
  rcases hc with rfl
  · show C6_0 0 st = none; unfold C6_0; split <;> rfl
theorem h6_ok : ∀ c ∈ K6, ∀ k st out, c.f (k + 1) st = some out → seg Try.prog O6 K6 k (body Try.f6) (kEnd Try.prog Try.f6.results.toList) c.p st = some out := by
  intro c hc k st out h
  simp only [K6, List.mem_cons, List.not_mem_nil, or_false] at hc
  rcases hc with rfl
  · exact h6_0 k st out h
theorem g6 (k : Nat) (l0_0 : List (S106)) (l0_1 : List (S108)) (l0_2 : List (S110)) (l0_3 : List (S112)) (l0_4 : List (S64)) (a0_5 : Int) (a1 : Int) (r : Bool) (h : laws_FnExactTradeOf.f k l0_0 l0_1 l0_2 l0_3 l0_4 a0_5 a1 = some r) : Good Try.prog 6 [.w (.ag [.rw 0, .rw 1, .rw 2, .rw 3, .rw 4, .sc (.i .i64 a0_5)]), .w (.c (.sc (.i .i64 a1)))] [.rows 0 (.e106 l0_0), .rows 0 (.e108 l0_1), .rows 0 (.e110 l0_2), .rows 0 (.e112 l0_3), .rows 0 (.e64 l0_4)] (o6 l0_0 l0_1 l0_2 l0_3 l0_4 r) := by
  refine fn_ok (k := k) O6_ok mixed Try.func6 (root := body Try.f6) (by kernel_rfl) z6_ok h6_ok ?_
  refine Lo.of (b := ((laws_szBooks.f l0_0 l0_1 l0_2 l0_3 l0_4 a0_5 1048576).bind fun r8 => (if r8 < 0 then (some (o6 l0_0 l0_1 l0_2 l0_3 l0_4 true)) else ((laws_toBooks.f k l0_0 l0_1 l0_2 l0_3 l0_4 a0_5).bind fun r9 => ((spec_TradeOf.f k r9.1 r9.2.1 r9.2.2.1 r9.2.2.2.1 r9.2.2.2.2.1 r9.2.2.2.2.2 a1).bind fun r10 => ((laws_toBooks.f k l0_0 l0_1 l0_2 l0_3 l0_4 a0_5).bind fun r11 => ((impl_TradeOf.f k r11.1 r11.2.1 r11.2.2.1 r11.2.2.2.1 r11.2.2.2.2.1 r11.2.2.2.2.2 a1).bind fun r12 => ((laws_eqTrade.f r12.1 r12.2.1 r12.2.2.1 r12.2.2.2.1 r12.2.2.2.2.1 r12.2.2.2.2.2.1 r12.2.2.2.2.2.2.1 r12.2.2.2.2.2.2.2.1 r10.1 r10.2.1 r10.2.2.1 r10.2.2.2.1 r10.2.2.2.2.1 r10.2.2.2.2.2.1 r10.2.2.2.2.2.2.1 r10.2.2.2.2.2.2.2.1).bind fun r13 => (if r13 = true then ((laws_FnExactTradeOf.j0 k (r12.2.2.2.2.2.2.2.2 != r10.2.2.2.2.2.2.2.2) l0_0 l0_1 l0_2 l0_3 l0_4 a0_5 r11.1 r11.2.1 r11.2.2.1 r11.2.2.2.1 r11.2.2.2.2.1 r11.2.2.2.2.2).bind fun r => some (o6 l0_0 l0_1 l0_2 l0_3 l0_4 r)) else ((laws_FnExactTradeOf.j0 k true l0_0 l0_1 l0_2 l0_3 l0_4 a0_5 r11.1 r11.2.1 r11.2.2.1 r11.2.2.2.1 r11.2.2.2.2.1 r11.2.2.2.2.2).bind fun r => some (o6 l0_0 l0_1 l0_2 l0_3 l0_4 r))))))))))) (c := (laws_FnExactTradeOf.f k l0_0 l0_1 l0_2 l0_3 l0_4 a0_5 a1).bind fun r => some (o6 l0_0 l0_1 l0_2 l0_3 l0_4 r)) (by kernel_rfl) ?_ _ (by rw [h]; rfl)
  · unfold laws_FnExactTradeOf.f
    repeat' first
    | with_reducible exact none_L
    | with_reducible refine let_L ?_
    | with_reducible refine some_L ?_
    | with_reducible refine ite_L (fun _ => ?_) (fun _ => ?_)
    | with_reducible refine bind_L (fun _ => ?_)
    | with_reducible refine drop_L (by first | assumption | omega) ?_
    | with_reducible refine ite_I (by omega) (fun _ => ?_) (fun _ => ?_)
    | rfl
    | simp only [Bool.decide_eq_true]
    | exact Lo.refl _
    | (refine Lo.eq ?_; simp only [Bool.decide_eq_true]; done)
    | refine ite_L (fun _ => ?_) (fun _ => ?_)
end Go.Proofs.Ytmfgajbkcnlkcaa.AI
namespace Go.Proofs.Ytmfgajbkcnlkcaa.AI
open Go Go.RowKit Go.Proofs.YtmfgajbkcnlkcaaW.PrintWords Go.Proofs.Ytmfgajbkcnlkcaa.P
set_option linter.unusedVariables false
set_option linter.all false
set_option maxRecDepth 100000
theorem root6_ok (k : Nat) (A0_0 : Option Addr) (c0_0 : Nat) (l0_0 : List (S106)) (A0_1 : Option Addr) (c0_1 : Nat) (l0_1 : List (S108)) (A0_2 : Option Addr) (c0_2 : Nat) (l0_2 : List (S110)) (A0_3 : Option Addr) (c0_3 : Nat) (l0_3 : List (S112)) (A0_4 : Option Addr) (c0_4 : Nat) (l0_4 : List (S64)) (a0_5 : Int) (a1 : Int) (r : Bool) (w : World) (hr0_0 : Kd.C k106 w A0_0 l0_0.length l0_0) (hc0_0 : l0_0.length ≤ c0_0) (hr0_1 : Kd.C k108 w A0_1 l0_1.length l0_1) (hc0_1 : l0_1.length ≤ c0_1) (hr0_2 : Kd.C k110 w A0_2 l0_2.length l0_2) (hc0_2 : l0_2.length ≤ c0_2) (hr0_3 : Kd.C k112 w A0_3 l0_3.length l0_3) (hc0_3 : l0_3.length ≤ c0_3) (hr0_4 : Kd.C k64 w A0_4 l0_4.length l0_4) (hc0_4 : l0_4.length ≤ c0_4) (h : laws_FnExactTradeOf.f k l0_0 l0_1 l0_2 l0_3 l0_4 a0_5 a1 = some r) :
    Calls Try.prog 6 #[.agg #[.slice A0_0 l0_0.length c0_0, .slice A0_1 l0_1.length c0_1, .slice A0_2 l0_2.length c0_2, .slice A0_3 l0_3.length c0_3, .slice A0_4 l0_4.length c0_4, .int .i64 a0_5], .int .i64 a1] w fun e w' => e = .returned (.bool r) ∧ Below w.heap.size w w' := by
  let G : Nat → Value := fun i => match i with
    | 0 => .slice A0_0 l0_0.length c0_0
    | 1 => .slice A0_1 l0_1.length c0_1
    | 2 => .slice A0_2 l0_2.length c0_2
    | 3 => .slice A0_3 l0_3.length c0_3
    | 4 => .slice A0_4 l0_4.length c0_4
    | _ => undef
  have hA : ArgsOK (R := Rw) Try.prog w G [.w (.ag [.rw 0, .rw 1, .rw 2, .rw 3, .rw 4, .sc (.i .i64 a0_5)]), .w (.c (.sc (.i .i64 a1)))] [.rows 0 (.e106 l0_0), .rows 0 (.e108 l0_1), .rows 0 (.e110 l0_2), .rows 0 (.e112 l0_3), .rows 0 (.e64 l0_4)] := args_ro (by simp [isRo]) (by simp [idsV, idsW, idsC, EpOK]) fun i b hb => by
    match i, hb with
    | 0, hb => obtain rfl := Option.some.inj hb; exact ro106.2 ⟨_, _, rfl, hc0_0, hr0_0⟩
    | 1, hb => obtain rfl := Option.some.inj hb; exact ro108.2 ⟨_, _, rfl, hc0_1, hr0_1⟩
    | 2, hb => obtain rfl := Option.some.inj hb; exact ro110.2 ⟨_, _, rfl, hc0_2, hr0_2⟩
    | 3, hb => obtain rfl := Option.some.inj hb; exact ro112.2 ⟨_, _, rfl, hc0_3, hr0_3⟩
    | 4, hb => obtain rfl := Option.some.inj hb; exact ro64.2 ⟨_, _, rfl, hc0_4, hr0_4⟩
    | _ + 5, hb => simp at hb
  have hq := calls_ro (by simp [isRo]) (by simp [o6, idsW, idsC]) (g6 k l0_0 l0_1 l0_2 l0_3 l0_4 a0_5 a1 r h) hA
  have hv : (List.map (concV G) [.w (.ag [.rw 0, .rw 1, .rw 2, .rw 3, .rw 4, .sc (.i .i64 a0_5)]), .w (.c (.sc (.i .i64 a1)))]).toArray = #[.agg #[.slice A0_0 l0_0.length c0_0, .slice A0_1 l0_1.length c0_1, .slice A0_2 l0_2.length c0_2, .slice A0_3 l0_3.length c0_3, .slice A0_4 l0_4.length c0_4, .int .i64 a0_5], .int .i64 a1] := by simp [concV, concW, conc, Sc.v, G]
  rw [hv] at hq
  exact hq
end Go.Proofs.Ytmfgajbkcnlkcaa.AI
namespace Go.Proofs.Ytmfgajbkcnlkcaa.EV
open Go Go.RowKit Go.Proofs.YtmfgajbkcnlkcaaW.PrintWords
theorem w64_in (n : Int) (h0 : -9223372036854775808 ≤ n) (h1 : n ≤ 9223372036854775807) : wrap64 n = n := by unfold wrap64; omega
theorem w_succ {i n : Nat} (h : i < n) (hn : n ≤ 9223372036854775807) : wrap64 ((i : Int) + 1) = ((i + 1 : Nat) : Int) := by unfold wrap64; omega
theorem w_pred {i n : Nat} (h : i < n) (hp : 0 < i) (hn : n ≤ 9223372036854775807) : wrap64 ((i : Int) - 1) = ((i - 1 : Nat) : Int) := by unfold wrap64; omega
theorem Ev_one {α : Type} {g : Nat → Option α} {r : α} (h : ∀ k, g (k + 1) = some r) : Ev g r := ⟨1, fun k hk => by
  obtain ⟨k, rfl⟩ : ∃ m, k = m + 1 := ⟨k - 1, by omega⟩
  exact h k⟩
theorem Ev_all_k {α : Type} {g : Nat → Option α} {r : α} (h : ∀ k, g k = some r) : Ev g r := ⟨0, fun k _ => h k⟩
theorem Ev_bind {α β : Type} {g : Nat → Option α} {f : Nat → α → Option β} {a : α} {r : β} (h : Ev g a) (k : Ev (fun n => f n a) r) : Ev (fun n => (g n).bind (f n)) r := Ev.bind h k
theorem Ev_asks (l : Nat → Int → Option Bool) (n : Nat) (G : Nat → Prop) (fin : Bool) (h0 : Ev (fun k => l k (n : Int)) fin)
    (hs : ∀ i : Nat, i < n → (G i ∧ ∀ k, l (k + 1) (i : Int) = l k ((i + 1 : Nat) : Int)) ∨ (¬ G i ∧ ∀ k, l (k + 1) (i : Int) = some false)) :
    ∀ (d i : Nat), n - i = d → i ≤ n → ∃ r, Ev (fun k => l k (i : Int)) r ∧ (r = true ↔ (∀ j, i ≤ j → j < n → G j) ∧ fin = true) := by
  intro d
  induction d with
  | zero =>
    intro i hd hi
    obtain rfl : i = n := by omega
    exact ⟨fin, h0, ⟨fun h => ⟨fun j h1 h2 => by omega, h⟩, fun h => h.2⟩⟩
  | succ d ih =>
    intro i hd hi
    rcases hs i (by omega) with ⟨hg, he⟩ | ⟨hg, he⟩
    · obtain ⟨r, hr, hiff⟩ := ih (i + 1) (by omega) (by omega)
      refine ⟨r, Ev.step he hr, ?_⟩
      rw [hiff]
      constructor
      · rintro ⟨h1, h2⟩
        refine ⟨fun j h3 h4 => ?_, h2⟩
        rcases Nat.eq_or_lt_of_le h3 with h5 | h5
        · exact h5 ▸ hg
        · exact h1 j h5 h4
      · rintro ⟨h1, h2⟩
        exact ⟨fun j h3 h4 => h1 j (by omega) h4, h2⟩
    · refine ⟨false, Ev_one he, ⟨fun h => Bool.noConfusion h, fun h => absurd (h.1 i (Nat.le_refl _) (by omega)) hg⟩⟩
theorem Ev_goes {σ ρ : Type} (l : Nat → σ → Int → Option ρ) (n : Nat) (F : Nat → σ → ρ) (Inv : Nat → σ → Prop)
    (h0 : ∀ s, Inv n s → Ev (fun k => l k s (n : Int)) (F n s))
    (hs : ∀ (i : Nat) s, i < n → Inv i s → (Ev (fun k => l k s (i : Int)) (F i s)) ∨ ∃ s', Inv (i + 1) s' ∧ F (i + 1) s' = F i s ∧ ∀ k, l (k + 1) s (i : Int) = l k s' ((i + 1 : Nat) : Int)) :
    ∀ (d i : Nat) s, n - i = d → i ≤ n → Inv i s → Ev (fun k => l k s (i : Int)) (F i s) := by
  intro d
  induction d with
  | zero =>
    intro i s hd hi hinv
    obtain rfl : i = n := by omega
    exact h0 s hinv
  | succ d ih =>
    intro i s hd hi hinv
    rcases hs i s (by omega) hinv with h | ⟨s', h1, h2, h3⟩
    · exact h
    · exact h2 ▸ Ev.step h3 (ih (i + 1) s' (by omega) (by omega) h1)
theorem Ev_goes' {σ ρ : Type} (l : Nat → σ → Int → Option ρ) (n : Nat) (F : Nat → σ → ρ) (Inv : Nat → σ → Prop)
    (h0 : ∀ s, Inv n s → Ev (fun k => l k s (n : Int)) (F n s))
    (hs : ∀ (i : Nat) s, i < n → Inv i s → (Ev (fun k => l k s (i : Int)) (F i s)) ∨ ∃ s', Inv (i + 1) s' ∧ F (i + 1) s' = F i s ∧ ∀ r, Ev (fun k => l k s' ((i + 1 : Nat) : Int)) r → Ev (fun k => l k s (i : Int)) r) :
    ∀ (d i : Nat) s, n - i = d → i ≤ n → Inv i s → Ev (fun k => l k s (i : Int)) (F i s) := by
  intro d
  induction d with
  | zero =>
    intro i s hd hi hinv
    obtain rfl : i = n := by omega
    exact h0 s hinv
  | succ d ih =>
    intro i s hd hi hinv
    rcases hs i s (by omega) hinv with h | ⟨s', h1, h2, h3⟩
    · exact h
    · exact h2 ▸ h3 _ (ih (i + 1) s' (by omega) (by omega) h1)
theorem Ev_asks' (l : Nat → Int → Option Bool) (n : Nat) (G : Nat → Prop) (fin : Bool) (h0 : Ev (fun k => l k (n : Int)) fin)
    (hs : ∀ i : Nat, i < n → (G i ∧ ∀ r, Ev (fun k => l k ((i + 1 : Nat) : Int)) r → Ev (fun k => l k (i : Int)) r) ∨ (¬ G i ∧ Ev (fun k => l k (i : Int)) false)) :
    ∀ (d i : Nat), n - i = d → i ≤ n → ∃ r, Ev (fun k => l k (i : Int)) r ∧ (r = true ↔ (∀ j, i ≤ j → j < n → G j) ∧ fin = true) := by
  intro d
  induction d with
  | zero =>
    intro i hd hi
    obtain rfl : i = n := by omega
    exact ⟨fin, h0, ⟨fun h => ⟨fun j h1 h2 => by omega, h⟩, fun h => h.2⟩⟩
  | succ d ih =>
    intro i hd hi
    rcases hs i (by omega) with ⟨hg, he⟩ | ⟨hg, he⟩
    · obtain ⟨r, hr, hiff⟩ := ih (i + 1) (by omega) (by omega)
      refine ⟨r, he r hr, ?_⟩
      rw [hiff]
      constructor
      · rintro ⟨h1, h2⟩
        refine ⟨fun j h3 h4 => ?_, h2⟩
        rcases Nat.eq_or_lt_of_le h3 with h5 | h5
        · exact h5 ▸ hg
        · exact h1 j h5 h4
      · rintro ⟨h1, h2⟩
        exact ⟨fun j h3 h4 => h1 j (by omega) h4, h2⟩
    · exact ⟨false, he, ⟨fun h => Bool.noConfusion h, fun h => absurd (h.1 i (Nat.le_refl _) (by omega)) hg⟩⟩
theorem drop_getD {α : Type} (z : α) (l : List α) (i : Nat) (h : i < l.length) : l.drop i = l.getD i z :: l.drop (i + 1) := by
  rw [List.drop_eq_getElem_cons h, List.getD_eq_getElem?_getD, List.getElem?_eq_getElem h]
  rfl
end Go.Proofs.Ytmfgajbkcnlkcaa.EV
namespace Go.Proofs.Ytmfgajbkcnlkcaa.T1
open Go Go.RowKit Go.Proofs.Ytmfgajbkcnlkcaa.P Go.Proofs.YtmfgajbkcnlkcaaW.PrintWords Go.Proofs.YtmfgajbkcnlkcaaW.PrintLast Go.Proofs.Ytmfgajbkcnlkcaa.EV
def cvAccount (x : S106) : S88 := ⟨x.f0, x.f1⟩
theorem sz_Account  (l : List S106) (left : Int) (h0 : 0 ≤ left) (h1 : left ≤ 1048576) (hm : l.length ≤ 9223372036854775807) : laws_szAccountS.f l left = some (if left < (l.length : Int) then -1 else left - l.length) := by
  unfold laws_szAccountS.f
  rw [w64_in _ (by omega) (by omega)]
  by_cases h : left < (l.length : Int)
  · rw [if_pos h, if_pos (by omega)]
  · rw [if_neg h, if_neg (by omega)]
theorem rd1_Account (l : List S106) (i : Nat) : rd_T106 l (i : Int) = l.getD i z106 := by unfold rd_T106; rw [Int.toNat_natCast]
theorem to_Account  (l : List S106) (hl : l.length ≤ 1048576) : Ev (fun k => laws_toAccountS.f k l) (l.map cvAccount) := by
  unfold laws_toAccountS.f
  have h := Ev_goes (fun k s i => laws_toAccountS.l0 k l s i) l.length (fun i s => s.take i ++ (l.drop i).map cvAccount) (fun i s => s.length = l.length)
    (fun s hs => Ev_one fun k => by
      simp only [laws_toAccountS.l0]
      rw [if_neg (by omega), List.drop_length, List.map_nil, List.append_nil, ← hs, List.take_length])
    (fun i s hi hs => .inr ⟨s.set i (cvAccount (l.getD i z106)), by rw [List.length_set]; exact hs, by
        rw [List.take_add_one, List.take_set_of_le (Nat.le_refl i), List.getElem?_set_self (by omega), List.drop_eq_getElem_cons hi, List.map_cons]
        have : l.getD i z106 = l[i] := by rw [List.getD_eq_getElem?_getD, List.getElem?_eq_getElem hi]; rfl
        rw [this]
        simp, fun k => by
        show laws_toAccountS.l0 (k + 1) l s (i : Int) = _
        simp only [laws_toAccountS.l0]
        rw [if_pos (by omega), if_pos (by omega), w_succ hi (by omega)]
        simp only [laws_toAccount.f, Option.bind_some, rd1_Account]
        rw [if_pos (by omega)]
        simp only [Int.toNat_natCast]
        rfl⟩) l.length 0 (List.replicate l.length z88) (by omega) (by omega) (by simp)
  refine Ev.congr (fun k => ?_) h
  rw [if_pos (by omega), if_pos (by omega)]
  rfl
theorem eq1_Account (x : S88) : laws_eqAccount.f x.f0 x.f1 x.f0 x.f1 = some true := by unfold laws_eqAccount.f; simp
theorem eq_Account (l : List S88) (hl : l.length ≤ 9223372036854775807) : Ev (fun k => laws_eqAccountS.f k l l) true := by
  unfold laws_eqAccountS.f
  obtain ⟨r, hr, hiff⟩ := Ev_asks (fun k i => laws_eqAccountS.l0 k l l i) l.length (fun _ => True) true
    (Ev_one fun k => by simp only [laws_eqAccountS.l0]; rw [if_neg (by omega)])
    (fun i hi => .inl ⟨trivial, fun k => by
      show laws_eqAccountS.l0 (k + 1) l l (i : Int) = _
      simp only [laws_eqAccountS.l0]
      rw [if_pos (by omega), if_pos (by omega), if_pos (by omega), w_succ hi (by omega)]
      simp only [eq1_Account, Option.bind_some, if_true]⟩) l.length 0 (by omega) (by omega)
  obtain rfl : r = true := hiff.2 ⟨fun _ _ _ => trivial, rfl⟩
  refine Ev.congr (fun k => ?_) hr
  rw [if_pos rfl]
  rfl
def cvInstr (x : S108) : S90 := ⟨x.f0, x.f1⟩
theorem sz_Instr  (l : List S108) (left : Int) (h0 : 0 ≤ left) (h1 : left ≤ 1048576) (hm : l.length ≤ 9223372036854775807) : laws_szInstrS.f l left = some (if left < (l.length : Int) then -1 else left - l.length) := by
  unfold laws_szInstrS.f
  rw [w64_in _ (by omega) (by omega)]
  by_cases h : left < (l.length : Int)
  · rw [if_pos h, if_pos (by omega)]
  · rw [if_neg h, if_neg (by omega)]
theorem rd1_Instr (l : List S108) (i : Nat) : rd_T108 l (i : Int) = l.getD i z108 := by unfold rd_T108; rw [Int.toNat_natCast]
theorem to_Instr  (l : List S108) (hl : l.length ≤ 1048576) : Ev (fun k => laws_toInstrS.f k l) (l.map cvInstr) := by
  unfold laws_toInstrS.f
  have h := Ev_goes (fun k s i => laws_toInstrS.l0 k l s i) l.length (fun i s => s.take i ++ (l.drop i).map cvInstr) (fun i s => s.length = l.length)
    (fun s hs => Ev_one fun k => by
      simp only [laws_toInstrS.l0]
      rw [if_neg (by omega), List.drop_length, List.map_nil, List.append_nil, ← hs, List.take_length])
    (fun i s hi hs => .inr ⟨s.set i (cvInstr (l.getD i z108)), by rw [List.length_set]; exact hs, by
        rw [List.take_add_one, List.take_set_of_le (Nat.le_refl i), List.getElem?_set_self (by omega), List.drop_eq_getElem_cons hi, List.map_cons]
        have : l.getD i z108 = l[i] := by rw [List.getD_eq_getElem?_getD, List.getElem?_eq_getElem hi]; rfl
        rw [this]
        simp, fun k => by
        show laws_toInstrS.l0 (k + 1) l s (i : Int) = _
        simp only [laws_toInstrS.l0]
        rw [if_pos (by omega), if_pos (by omega), w_succ hi (by omega)]
        simp only [laws_toInstr.f, Option.bind_some, rd1_Instr]
        rw [if_pos (by omega)]
        simp only [Int.toNat_natCast]
        rfl⟩) l.length 0 (List.replicate l.length z90) (by omega) (by omega) (by simp)
  refine Ev.congr (fun k => ?_) h
  rw [if_pos (by omega), if_pos (by omega)]
  rfl
theorem eq1_Instr (x : S90) : laws_eqInstr.f x.f0 x.f1 x.f0 x.f1 = some true := by unfold laws_eqInstr.f; simp
theorem eq_Instr (l : List S90) (hl : l.length ≤ 9223372036854775807) : Ev (fun k => laws_eqInstrS.f k l l) true := by
  unfold laws_eqInstrS.f
  obtain ⟨r, hr, hiff⟩ := Ev_asks (fun k i => laws_eqInstrS.l0 k l l i) l.length (fun _ => True) true
    (Ev_one fun k => by simp only [laws_eqInstrS.l0]; rw [if_neg (by omega)])
    (fun i hi => .inl ⟨trivial, fun k => by
      show laws_eqInstrS.l0 (k + 1) l l (i : Int) = _
      simp only [laws_eqInstrS.l0]
      rw [if_pos (by omega), if_pos (by omega), if_pos (by omega), w_succ hi (by omega)]
      simp only [eq1_Instr, Option.bind_some, if_true]⟩) l.length 0 (by omega) (by omega)
  obtain rfl : r = true := hiff.2 ⟨fun _ _ _ => trivial, rfl⟩
  refine Ev.congr (fun k => ?_) hr
  rw [if_pos rfl]
  rfl
def cvBal (x : S110) : S93 := ⟨x.f0, x.f1, x.f2⟩
theorem sz_Bal  (l : List S110) (left : Int) (h0 : 0 ≤ left) (h1 : left ≤ 1048576) (hm : l.length ≤ 9223372036854775807) : laws_szBalS.f l left = some (if left < (l.length : Int) then -1 else left - l.length) := by
  unfold laws_szBalS.f
  rw [w64_in _ (by omega) (by omega)]
  by_cases h : left < (l.length : Int)
  · rw [if_pos h, if_pos (by omega)]
  · rw [if_neg h, if_neg (by omega)]
theorem rd1_Bal (l : List S110) (i : Nat) : rd_T110 l (i : Int) = l.getD i z110 := by unfold rd_T110; rw [Int.toNat_natCast]
theorem to_Bal  (l : List S110) (hl : l.length ≤ 1048576) : Ev (fun k => laws_toBalS.f k l) (l.map cvBal) := by
  unfold laws_toBalS.f
  have h := Ev_goes (fun k s i => laws_toBalS.l0 k l s i) l.length (fun i s => s.take i ++ (l.drop i).map cvBal) (fun i s => s.length = l.length)
    (fun s hs => Ev_one fun k => by
      simp only [laws_toBalS.l0]
      rw [if_neg (by omega), List.drop_length, List.map_nil, List.append_nil, ← hs, List.take_length])
    (fun i s hi hs => .inr ⟨s.set i (cvBal (l.getD i z110)), by rw [List.length_set]; exact hs, by
        rw [List.take_add_one, List.take_set_of_le (Nat.le_refl i), List.getElem?_set_self (by omega), List.drop_eq_getElem_cons hi, List.map_cons]
        have : l.getD i z110 = l[i] := by rw [List.getD_eq_getElem?_getD, List.getElem?_eq_getElem hi]; rfl
        rw [this]
        simp, fun k => by
        show laws_toBalS.l0 (k + 1) l s (i : Int) = _
        simp only [laws_toBalS.l0]
        rw [if_pos (by omega), if_pos (by omega), w_succ hi (by omega)]
        simp only [laws_toBal.f, Option.bind_some, rd1_Bal]
        rw [if_pos (by omega)]
        simp only [Int.toNat_natCast]
        rfl⟩) l.length 0 (List.replicate l.length z93) (by omega) (by omega) (by simp)
  refine Ev.congr (fun k => ?_) h
  rw [if_pos (by omega), if_pos (by omega)]
  rfl
theorem eq1_Bal (x : S93) : laws_eqBal.f x.f0 x.f1 x.f2 x.f0 x.f1 x.f2 = some true := by unfold laws_eqBal.f; simp
theorem eq_Bal (l : List S93) (hl : l.length ≤ 9223372036854775807) : Ev (fun k => laws_eqBalS.f k l l) true := by
  unfold laws_eqBalS.f
  obtain ⟨r, hr, hiff⟩ := Ev_asks (fun k i => laws_eqBalS.l0 k l l i) l.length (fun _ => True) true
    (Ev_one fun k => by simp only [laws_eqBalS.l0]; rw [if_neg (by omega)])
    (fun i hi => .inl ⟨trivial, fun k => by
      show laws_eqBalS.l0 (k + 1) l l (i : Int) = _
      simp only [laws_eqBalS.l0]
      rw [if_pos (by omega), if_pos (by omega), if_pos (by omega), w_succ hi (by omega)]
      simp only [eq1_Bal, Option.bind_some, if_true]⟩) l.length 0 (by omega) (by omega)
  obtain rfl : r = true := hiff.2 ⟨fun _ _ _ => trivial, rfl⟩
  refine Ev.congr (fun k => ?_) hr
  rw [if_pos rfl]
  rfl
def cvLot (x : S112) : S96 := ⟨x.f0, x.f1, x.f2, x.f3, x.f4⟩
theorem sz_Lot  (l : List S112) (left : Int) (h0 : 0 ≤ left) (h1 : left ≤ 1048576) (hm : l.length ≤ 9223372036854775807) : laws_szLotS.f l left = some (if left < (l.length : Int) then -1 else left - l.length) := by
  unfold laws_szLotS.f
  rw [w64_in _ (by omega) (by omega)]
  by_cases h : left < (l.length : Int)
  · rw [if_pos h, if_pos (by omega)]
  · rw [if_neg h, if_neg (by omega)]
theorem rd1_Lot (l : List S112) (i : Nat) : rd_T112 l (i : Int) = l.getD i z112 := by unfold rd_T112; rw [Int.toNat_natCast]
theorem to_Lot  (l : List S112) (hl : l.length ≤ 1048576) : Ev (fun k => laws_toLotS.f k l) (l.map cvLot) := by
  unfold laws_toLotS.f
  have h := Ev_goes (fun k s i => laws_toLotS.l0 k l s i) l.length (fun i s => s.take i ++ (l.drop i).map cvLot) (fun i s => s.length = l.length)
    (fun s hs => Ev_one fun k => by
      simp only [laws_toLotS.l0]
      rw [if_neg (by omega), List.drop_length, List.map_nil, List.append_nil, ← hs, List.take_length])
    (fun i s hi hs => .inr ⟨s.set i (cvLot (l.getD i z112)), by rw [List.length_set]; exact hs, by
        rw [List.take_add_one, List.take_set_of_le (Nat.le_refl i), List.getElem?_set_self (by omega), List.drop_eq_getElem_cons hi, List.map_cons]
        have : l.getD i z112 = l[i] := by rw [List.getD_eq_getElem?_getD, List.getElem?_eq_getElem hi]; rfl
        rw [this]
        simp, fun k => by
        show laws_toLotS.l0 (k + 1) l s (i : Int) = _
        simp only [laws_toLotS.l0]
        rw [if_pos (by omega), if_pos (by omega), w_succ hi (by omega)]
        simp only [laws_toLot.f, Option.bind_some, rd1_Lot]
        rw [if_pos (by omega)]
        simp only [Int.toNat_natCast]
        rfl⟩) l.length 0 (List.replicate l.length z96) (by omega) (by omega) (by simp)
  refine Ev.congr (fun k => ?_) h
  rw [if_pos (by omega), if_pos (by omega)]
  rfl
theorem eq1_Lot (x : S96) : laws_eqLot.f x.f0 x.f1 x.f2 x.f3 x.f4 x.f0 x.f1 x.f2 x.f3 x.f4 = some true := by unfold laws_eqLot.f; simp
theorem eq_Lot (l : List S96) (hl : l.length ≤ 9223372036854775807) : Ev (fun k => laws_eqLotS.f k l l) true := by
  unfold laws_eqLotS.f
  obtain ⟨r, hr, hiff⟩ := Ev_asks (fun k i => laws_eqLotS.l0 k l l i) l.length (fun _ => True) true
    (Ev_one fun k => by simp only [laws_eqLotS.l0]; rw [if_neg (by omega)])
    (fun i hi => .inl ⟨trivial, fun k => by
      show laws_eqLotS.l0 (k + 1) l l (i : Int) = _
      simp only [laws_eqLotS.l0]
      rw [if_pos (by omega), if_pos (by omega), if_pos (by omega), w_succ hi (by omega)]
      simp only [eq1_Lot, Option.bind_some, if_true]⟩) l.length 0 (by omega) (by omega)
  obtain rfl : r = true := hiff.2 ⟨fun _ _ _ => trivial, rfl⟩
  refine Ev.congr (fun k => ?_) hr
  rw [if_pos rfl]
  rfl
def cvTrade (x : S64) : S50 := ⟨x.f0, x.f1, x.f2, x.f3, x.f4, x.f5, x.f6, x.f7⟩
theorem sz_Trade  (l : List S64) (left : Int) (h0 : 0 ≤ left) (h1 : left ≤ 1048576) (hm : l.length ≤ 9223372036854775807) : laws_szTradeS.f l left = some (if left < (l.length : Int) then -1 else left - l.length) := by
  unfold laws_szTradeS.f
  rw [w64_in _ (by omega) (by omega)]
  by_cases h : left < (l.length : Int)
  · rw [if_pos h, if_pos (by omega)]
  · rw [if_neg h, if_neg (by omega)]
theorem rd1_Trade (l : List S64) (i : Nat) : rd_T64 l (i : Int) = l.getD i z64 := by unfold rd_T64; rw [Int.toNat_natCast]
theorem to_Trade  (l : List S64) (hl : l.length ≤ 1048576) : Ev (fun k => laws_toTradeS.f k l) (l.map cvTrade) := by
  unfold laws_toTradeS.f
  have h := Ev_goes (fun k s i => laws_toTradeS.l0 k l s i) l.length (fun i s => s.take i ++ (l.drop i).map cvTrade) (fun i s => s.length = l.length)
    (fun s hs => Ev_one fun k => by
      simp only [laws_toTradeS.l0]
      rw [if_neg (by omega), List.drop_length, List.map_nil, List.append_nil, ← hs, List.take_length])
    (fun i s hi hs => .inr ⟨s.set i (cvTrade (l.getD i z64)), by rw [List.length_set]; exact hs, by
        rw [List.take_add_one, List.take_set_of_le (Nat.le_refl i), List.getElem?_set_self (by omega), List.drop_eq_getElem_cons hi, List.map_cons]
        have : l.getD i z64 = l[i] := by rw [List.getD_eq_getElem?_getD, List.getElem?_eq_getElem hi]; rfl
        rw [this]
        simp, fun k => by
        show laws_toTradeS.l0 (k + 1) l s (i : Int) = _
        simp only [laws_toTradeS.l0]
        rw [if_pos (by omega), if_pos (by omega), w_succ hi (by omega)]
        simp only [laws_toTrade.f, Option.bind_some, rd1_Trade]
        rw [if_pos (by omega)]
        simp only [Int.toNat_natCast]
        rfl⟩) l.length 0 (List.replicate l.length z50) (by omega) (by omega) (by simp)
  refine Ev.congr (fun k => ?_) h
  rw [if_pos (by omega), if_pos (by omega)]
  rfl
theorem eq1_Trade (x : S50) : laws_eqTrade.f x.f0 x.f1 x.f2 x.f3 x.f4 x.f5 x.f6 x.f7 x.f0 x.f1 x.f2 x.f3 x.f4 x.f5 x.f6 x.f7 = some true := by unfold laws_eqTrade.f; simp
theorem eq_Trade (l : List S50) (hl : l.length ≤ 9223372036854775807) : Ev (fun k => laws_eqTradeS.f k l l) true := by
  unfold laws_eqTradeS.f
  obtain ⟨r, hr, hiff⟩ := Ev_asks (fun k i => laws_eqTradeS.l0 k l l i) l.length (fun _ => True) true
    (Ev_one fun k => by simp only [laws_eqTradeS.l0]; rw [if_neg (by omega)])
    (fun i hi => .inl ⟨trivial, fun k => by
      show laws_eqTradeS.l0 (k + 1) l l (i : Int) = _
      simp only [laws_eqTradeS.l0]
      rw [if_pos (by omega), if_pos (by omega), if_pos (by omega), w_succ hi (by omega)]
      simp only [eq1_Trade, Option.bind_some, if_true]⟩) l.length 0 (by omega) (by omega)
  obtain rfl : r = true := hiff.2 ⟨fun _ _ _ => trivial, rfl⟩
  refine Ev.congr (fun k => ?_) hr
  rw [if_pos rfl]
  rfl
end Go.Proofs.Ytmfgajbkcnlkcaa.T1
namespace Go.Proofs.Ytmfgajbkcnlkcaa.T2
open Go Go.RowKit Go.Proofs.Ytmfgajbkcnlkcaa.P Go.Proofs.YtmfgajbkcnlkcaaW.PrintWords Go.Proofs.YtmfgajbkcnlkcaaW.PrintLast Go.Proofs.Ytmfgajbkcnlkcaa.EV Go.Proofs.Ytmfgajbkcnlkcaa.T1
section
variable (l0 : List S106) (l1 : List S108) (l2 : List S110) (l3 : List S112) (l4 : List S64) (d : Int)
theorem sz_Books (m0 : l0.length ≤ 9223372036854775807) (m1 : l1.length ≤ 9223372036854775807) (m2 : l2.length ≤ 9223372036854775807) (m3 : l3.length ≤ 9223372036854775807) (m4 : l4.length ≤ 9223372036854775807) :
    (∃ n : Int, n < 0 ∧ laws_szBooks.f l0 l1 l2 l3 l4 d 1048576 = some n) ∨ (l0.length ≤ 1048576 ∧ l1.length ≤ 1048576 ∧ l2.length ≤ 1048576 ∧ l3.length ≤ 1048576 ∧ l4.length ≤ 1048576 ∧ ∃ n : Int, 0 ≤ n ∧ laws_szBooks.f l0 l1 l2 l3 l4 d 1048576 = some n) := by
  unfold laws_szBooks.f
  rw [sz_Account l0 1048576 (by decide) (by decide) m0, Option.bind_some]
  by_cases c0 : (1048576 : Int) < (l0.length : Int)
  · rw [if_pos c0, if_pos (by decide)]
    exact .inl ⟨-1, by decide, rfl⟩
  rw [if_neg c0, if_neg (by omega), sz_Instr l1 _ (by omega) (by omega) m1, Option.bind_some]
  by_cases c1 : (1048576 : Int) - (l0.length : Int) < (l1.length : Int)
  · rw [if_pos c1, if_pos (by decide)]
    exact .inl ⟨-1, by decide, rfl⟩
  rw [if_neg c1, if_neg (by omega), sz_Bal l2 _ (by omega) (by omega) m2, Option.bind_some]
  by_cases c2 : (1048576 : Int) - (l0.length : Int) - (l1.length : Int) < (l2.length : Int)
  · rw [if_pos c2, if_pos (by decide)]
    exact .inl ⟨-1, by decide, rfl⟩
  rw [if_neg c2, if_neg (by omega), sz_Lot l3 _ (by omega) (by omega) m3, Option.bind_some]
  by_cases c3 : (1048576 : Int) - (l0.length : Int) - (l1.length : Int) - (l2.length : Int) < (l3.length : Int)
  · rw [if_pos c3, if_pos (by decide)]
    exact .inl ⟨-1, by decide, rfl⟩
  rw [if_neg c3, if_neg (by omega), sz_Trade l4 _ (by omega) (by omega) m4, Option.bind_some]
  by_cases c4 : (1048576 : Int) - (l0.length : Int) - (l1.length : Int) - (l2.length : Int) - (l3.length : Int) < (l4.length : Int)
  · rw [if_pos c4, if_pos (by decide)]
    exact .inl ⟨-1, by decide, rfl⟩
  rw [if_neg c4, if_neg (by omega)]
  exact .inr ⟨by omega, by omega, by omega, by omega, by omega, _, by omega, rfl⟩
theorem to_Books (m0 : l0.length ≤ 1048576) (m1 : l1.length ≤ 1048576) (m2 : l2.length ≤ 1048576) (m3 : l3.length ≤ 1048576) (m4 : l4.length ≤ 1048576) :
    Ev (fun k => laws_toBooks.f k l0 l1 l2 l3 l4 d) (l0.map cvAccount, l1.map cvInstr, l2.map cvBal, l3.map cvLot, l4.map cvTrade, d) := by
  unfold laws_toBooks.f
  exact Ev_bind (to_Account l0 m0) (Ev_bind (to_Instr l1 m1) (Ev_bind (to_Bal l2 m2) (Ev_bind (to_Lot l3 m3) (Ev_bind (to_Trade l4 m4) (Ev.now _)))))
end
theorem eq_Books (A : List S88) (I : List S90) (B : List S93) (L : List S96) (T : List S50) (d : Int) (m0 : A.length ≤ 9223372036854775807) (m1 : I.length ≤ 9223372036854775807) (m2 : B.length ≤ 9223372036854775807) (m3 : L.length ≤ 9223372036854775807) (m4 : T.length ≤ 9223372036854775807) :
    Ev (fun k => laws_eqBooks.f k A I B L T d A I B L T d) true := by
  unfold laws_eqBooks.f
  exact Ev_bind (eq_Account A m0) (Ev.congr (fun k => if_pos rfl) (Ev_bind (eq_Instr I m1) (Ev.congr (fun k => if_pos rfl) (Ev_bind (eq_Bal B m2) (Ev.congr (fun k => if_pos rfl) (Ev_bind (eq_Lot L m3) (Ev.congr (fun k => if_pos rfl) (Ev_bind (eq_Trade T m4) (Ev.congr (fun k => if_pos rfl) (Ev_all_k fun k => if_pos rfl))))))))))
end Go.Proofs.Ytmfgajbkcnlkcaa.T2
namespace Go.Proofs.Ytmfgajbkcnlkcaa.I1
open Go Go.RowKit Go.Proofs.Ytmfgajbkcnlkcaa.P Go.Proofs.YtmfgajbkcnlkcaaW.PrintWords Go.Proofs.YtmfgajbkcnlkcaaW.PrintLast
theorem in_i (a lo hi : Int) : impl_in.f a lo hi = some (decide (lo ≤ a ∧ a ≤ hi)) := by
  unfold impl_in.f
  by_cases h : a ≥ lo
  · rw [if_pos h]
    congr 1
    rw [Bool.eq_iff_iff, decide_eq_true_iff, decide_eq_true_iff]
    omega
  · rw [if_neg h]
    congr 1
    symm
    rw [decide_eq_false_iff_not]
    omega
theorem in_s (a lo hi : Int) : spec_l1In.f a lo hi = some (decide (lo ≤ a ∧ a ≤ hi)) := by
  unfold spec_l1In.f
  by_cases h : a ≥ lo
  · rw [if_pos h]
    congr 1
    rw [Bool.eq_iff_iff, decide_eq_true_iff, decide_eq_true_iff]
    omega
  · rw [if_neg h]
    congr 1
    symm
    rw [decide_eq_false_iff_not]
    omega
end Go.Proofs.Ytmfgajbkcnlkcaa.I1
namespace Go.Proofs.Ytmfgajbkcnlkcaa.N1
open Go Go.RowKit Go.Proofs.Ytmfgajbkcnlkcaa.P Go.Proofs.YtmfgajbkcnlkcaaW.PrintWords Go.Proofs.YtmfgajbkcnlkcaaW.PrintLast Go.Proofs.Ytmfgajbkcnlkcaa.EV Go.Proofs.Ytmfgajbkcnlkcaa.I1
def No (a : Int) : Prop := 1 ≤ a ∧ a ≤ 1000
def Amt (a : Int) : Prop := -1000000000000000 ≤ a ∧ a ≤ 1000000000000000
instance (a : Int) : Decidable (No a) := by unfold No; exact inferInstance
instance (a : Int) : Decidable (Amt a) := by unfold Amt; exact inferInstance
theorem no_s (a : Int) : spec_l3No.f a = some (decide (No a)) := by unfold spec_l3No.f; rw [in_s]; rfl
theorem no_i (a : Int) : impl_isNo.f a = some (decide (No a)) := by unfold impl_isNo.f; rw [in_i]; rfl
theorem amt_s (a : Int) : spec_AmountOk.f a = some (decide (Amt a)) := by unfold spec_AmountOk.f; rw [in_s]; rfl
theorem amt_i (a : Int) : impl_AmountOk.f a = some (decide (Amt a)) := by unfold impl_AmountOk.f; rw [in_i]; rfl
end Go.Proofs.Ytmfgajbkcnlkcaa.N1
namespace Go.Proofs.Ytmfgajbkcnlkcaa.C1
open Go Go.RowKit Go.Proofs.Ytmfgajbkcnlkcaa.P Go.Proofs.YtmfgajbkcnlkcaaW.PrintWords Go.Proofs.YtmfgajbkcnlkcaaW.PrintLast Go.Proofs.Ytmfgajbkcnlkcaa.EV Go.Proofs.Ytmfgajbkcnlkcaa.I1
theorem no_s (a : Int) : spec_l3No.f a = some (decide (1 ≤ a ∧ a ≤ 1000)) := by unfold spec_l3No.f; rw [in_s]; rfl
theorem no_i (a : Int) : impl_isNo.f a = some (decide (1 ≤ a ∧ a ≤ 1000)) := by unfold impl_isNo.f; rw [in_i]; rfl
def GoodA (l : List S88) (j : Nat) : Prop :=
  (1 ≤ (l.getD j z88).f0 ∧ (l.getD j z88).f0 ≤ 1000) ∧ (1 ≤ (l.getD j z88).f1 ∧ (l.getD j z88).f1 ≤ 4) ∧ (0 < j → (l.getD (j - 1) z88).f0 < (l.getD j z88).f0)
def OkA (l : List S88) : Prop := l.length ≤ 20 ∧ ∀ j, j < l.length → GoodA l j
noncomputable def okA (l : List S88) : Bool := @decide (OkA l) (Classical.propDecidable _)
theorem okA_iff (l : List S88) : okA l = true ↔ OkA l := by unfold okA; exact @decide_eq_true_iff _ (Classical.propDecidable _)
theorem rdA (l : List S88) (i : Nat) : rd_T88 l (i : Int) = l.getD i z88 := by unfold rd_T88; rw [Int.toNat_natCast]
theorem accountsOk_s (l : List S88) : Ev (fun k => spec_AccountsOk.f k l) (okA l) := by
  unfold spec_AccountsOk.f
  by_cases hn : (l.length : Int) > 20
  · have : okA l = false := by
      rw [Bool.eq_false_iff, Ne, okA_iff]
      intro h
      have := h.1
      omega
    rw [this]
    exact Ev_all_k fun k => by rw [if_pos hn]
  · obtain ⟨r, hr, hiff⟩ := Ev_asks (fun k i => spec_AccountsOk.l0 k l i) l.length (GoodA l) true
      (Ev_one fun k => by simp only [spec_AccountsOk.l0]; rw [if_neg (by omega)])
      (fun i hi => by
        have e : ∀ k, spec_AccountsOk.l0 (k + 1) l (i : Int) = if (1 ≤ (l.getD i z88).f0 ∧ (l.getD i z88).f0 ≤ 1000) then (if (1 ≤ (l.getD i z88).f1 ∧ (l.getD i z88).f1 ≤ 4) then (if 0 < i then (if (l.getD (i - 1) z88).f0 < (l.getD i z88).f0 then spec_AccountsOk.l0 k l ((i + 1 : Nat) : Int) else some false) else spec_AccountsOk.l0 k l ((i + 1 : Nat) : Int)) else some false) else some false := by
          intro k
          simp only [spec_AccountsOk.l0]
          rw [if_pos (by omega), if_pos (by omega)]
          rw [w_succ hi (by omega)]
          by_cases h0 : 0 < i
          · rw [w_pred hi h0 (by omega)]
            simp only [no_s, in_s, Option.bind_some, decide_eq_true_iff, rdA]
            split
            · split
              · rw [if_pos (by omega), if_pos (by omega), if_pos (by omega)]
                split
                · rw [if_neg (by omega)]
                · rw [if_pos (by omega)]
              · rfl
            · rfl
          · simp only [no_s, in_s, Option.bind_some, decide_eq_true_iff, rdA]
            split
            · split
              · rw [if_neg (by omega)]
              · rfl
            · rfl
        by_cases hg : GoodA l i
        · refine .inl ⟨hg, fun k => ?_⟩
          show spec_AccountsOk.l0 (k + 1) l (i : Int) = _
          rw [e k, if_pos hg.1, if_pos hg.2.1]
          split
          · rename_i h0
            rw [if_pos (hg.2.2 h0)]
          · rfl
        · refine .inr ⟨hg, fun k => ?_⟩
          show spec_AccountsOk.l0 (k + 1) l (i : Int) = _
          rw [e k]
          unfold GoodA at hg
          split
          · rename_i h1
            split
            · rename_i h2
              split
              · rename_i h3
                rw [if_neg (fun h4 => hg ⟨h1, h2, fun _ => h4⟩)]
              · rename_i h3
                exact absurd ⟨h1, h2, fun h4 => absurd h4 h3⟩ hg
            · rfl
          · rfl) l.length 0 (by omega) (by omega)
    have hq : r = okA l := by
      rw [Bool.eq_iff_iff, hiff, okA_iff]
      exact ⟨fun h => ⟨by omega, fun j hj => h.1 j (Nat.zero_le _) hj⟩, fun h => ⟨fun j _ hj => h.2 j hj, rfl⟩⟩
    subst hq
    exact Ev.congr (fun k => by rw [if_neg hn]; rfl) hr
theorem accountsOk_i (l : List S88) (hm : l.length ≤ 9223372036854775807) : Ev (fun k => impl_AccountsOk.f k l) (okA l) := by
  unfold impl_AccountsOk.f
  obtain ⟨r, hr, hiff⟩ := Ev_asks (fun k i => impl_AccountsOk.l0 k l l (l.length : Int) i) l.length (GoodA l) (decide ((l.length : Int) ≤ 20))
      (Ev_one fun k => by simp only [impl_AccountsOk.l0]; rw [if_neg (by omega)])
      (fun i hi => by
        have e : ∀ k, impl_AccountsOk.l0 (k + 1) l l (l.length : Int) (i : Int) = if (1 ≤ (l.getD i z88).f0 ∧ (l.getD i z88).f0 ≤ 1000) then (if (1 ≤ (l.getD i z88).f1 ∧ (l.getD i z88).f1 ≤ 4) then (if 0 < i then (if (l.getD (i - 1) z88).f0 < (l.getD i z88).f0 then impl_AccountsOk.l0 k l l (l.length : Int) ((i + 1 : Nat) : Int) else some false) else impl_AccountsOk.l0 k l l (l.length : Int) ((i + 1 : Nat) : Int)) else some false) else some false := by
          intro k
          simp only [impl_AccountsOk.l0]
          rw [if_pos (by omega), if_pos (by omega), if_pos (by omega)]
          rw [w_succ hi (by omega)]
          by_cases h0 : 0 < i
          · rw [w_pred hi h0 (by omega)]
            simp only [no_i, in_i, Option.bind_some, decide_eq_true_iff, rdA]
            split
            · split
              · rw [if_pos (by omega), if_pos (by omega), if_pos (by omega)]
                split
                · rw [if_neg (by omega)]
                · rw [if_pos (by omega)]
              · rfl
            · rfl
          · simp only [no_i, in_i, Option.bind_some, decide_eq_true_iff, rdA]
            split
            · split
              · rw [if_neg (by omega)]
              · rfl
            · rfl
        by_cases hg : GoodA l i
        · refine .inl ⟨hg, fun k => ?_⟩
          show impl_AccountsOk.l0 (k + 1) l l (l.length : Int) (i : Int) = _
          rw [e k, if_pos hg.1, if_pos hg.2.1]
          split
          · rename_i h0
            rw [if_pos (hg.2.2 h0)]
          · rfl
        · refine .inr ⟨hg, fun k => ?_⟩
          show impl_AccountsOk.l0 (k + 1) l l (l.length : Int) (i : Int) = _
          rw [e k]
          unfold GoodA at hg
          split
          · rename_i h1
            split
            · rename_i h2
              split
              · rename_i h3
                rw [if_neg (fun h4 => hg ⟨h1, h2, fun _ => h4⟩)]
              · rename_i h3
                exact absurd ⟨h1, h2, fun h4 => absurd h4 h3⟩ hg
            · rfl
          · rfl) l.length 0 (by omega) (by omega)
  have hq : r = okA l := by
    rw [Bool.eq_iff_iff, hiff, okA_iff, decide_eq_true_iff]
    exact ⟨fun h => ⟨by omega, fun j hj => h.1 j (Nat.zero_le _) hj⟩, fun h => ⟨fun j _ hj => h.2 j hj, by have := h.1; omega⟩⟩
  subst hq
  exact hr
def GoodI (l : List S90) (j : Nat) : Prop :=
  (1 ≤ (l.getD j z90).f0 ∧ (l.getD j z90).f0 ≤ 1000) ∧ (1 ≤ (l.getD j z90).f1 ∧ (l.getD j z90).f1 ≤ 2) ∧ (0 < j → (l.getD (j - 1) z90).f0 < (l.getD j z90).f0)
def OkI (l : List S90) : Prop := l.length ≤ 8 ∧ ∀ j, j < l.length → GoodI l j
noncomputable def okI (l : List S90) : Bool := @decide (OkI l) (Classical.propDecidable _)
theorem okI_iff (l : List S90) : okI l = true ↔ OkI l := by unfold okI; exact @decide_eq_true_iff _ (Classical.propDecidable _)
theorem rdI (l : List S90) (i : Nat) : rd_T90 l (i : Int) = l.getD i z90 := by unfold rd_T90; rw [Int.toNat_natCast]
theorem instrsOk_s (l : List S90) : Ev (fun k => spec_InstrsOk.f k l) (okI l) := by
  unfold spec_InstrsOk.f
  by_cases hn : (l.length : Int) > 8
  · have : okI l = false := by
      rw [Bool.eq_false_iff, Ne, okI_iff]
      intro h
      have := h.1
      omega
    rw [this]
    exact Ev_all_k fun k => by rw [if_pos hn]
  · obtain ⟨r, hr, hiff⟩ := Ev_asks (fun k i => spec_InstrsOk.l0 k l i) l.length (GoodI l) true
      (Ev_one fun k => by simp only [spec_InstrsOk.l0]; rw [if_neg (by omega)])
      (fun i hi => by
        have e : ∀ k, spec_InstrsOk.l0 (k + 1) l (i : Int) = if (1 ≤ (l.getD i z90).f0 ∧ (l.getD i z90).f0 ≤ 1000) then (if (1 ≤ (l.getD i z90).f1 ∧ (l.getD i z90).f1 ≤ 2) then (if 0 < i then (if (l.getD (i - 1) z90).f0 < (l.getD i z90).f0 then spec_InstrsOk.l0 k l ((i + 1 : Nat) : Int) else some false) else spec_InstrsOk.l0 k l ((i + 1 : Nat) : Int)) else some false) else some false := by
          intro k
          simp only [spec_InstrsOk.l0]
          rw [if_pos (by omega), if_pos (by omega)]
          rw [w_succ hi (by omega)]
          by_cases h0 : 0 < i
          · rw [w_pred hi h0 (by omega)]
            simp only [no_s, in_s, Option.bind_some, decide_eq_true_iff, rdI]
            split
            · split
              · rw [if_pos (by omega), if_pos (by omega), if_pos (by omega)]
                split
                · rw [if_neg (by omega)]
                · rw [if_pos (by omega)]
              · rfl
            · rfl
          · simp only [no_s, in_s, Option.bind_some, decide_eq_true_iff, rdI]
            split
            · split
              · rw [if_neg (by omega)]
              · rfl
            · rfl
        by_cases hg : GoodI l i
        · refine .inl ⟨hg, fun k => ?_⟩
          show spec_InstrsOk.l0 (k + 1) l (i : Int) = _
          rw [e k, if_pos hg.1, if_pos hg.2.1]
          split
          · rename_i h0
            rw [if_pos (hg.2.2 h0)]
          · rfl
        · refine .inr ⟨hg, fun k => ?_⟩
          show spec_InstrsOk.l0 (k + 1) l (i : Int) = _
          rw [e k]
          unfold GoodI at hg
          split
          · rename_i h1
            split
            · rename_i h2
              split
              · rename_i h3
                rw [if_neg (fun h4 => hg ⟨h1, h2, fun _ => h4⟩)]
              · rename_i h3
                exact absurd ⟨h1, h2, fun h4 => absurd h4 h3⟩ hg
            · rfl
          · rfl) l.length 0 (by omega) (by omega)
    have hq : r = okI l := by
      rw [Bool.eq_iff_iff, hiff, okI_iff]
      exact ⟨fun h => ⟨by omega, fun j hj => h.1 j (Nat.zero_le _) hj⟩, fun h => ⟨fun j _ hj => h.2 j hj, rfl⟩⟩
    subst hq
    exact Ev.congr (fun k => by rw [if_neg hn]; rfl) hr
theorem instrsOk_i (l : List S90) (hm : l.length ≤ 9223372036854775807) : Ev (fun k => impl_InstrsOk.f k l) (okI l) := by
  unfold impl_InstrsOk.f
  obtain ⟨r, hr, hiff⟩ := Ev_asks (fun k i => impl_InstrsOk.l0 k l l (l.length : Int) i) l.length (GoodI l) (decide ((l.length : Int) ≤ 8))
      (Ev_one fun k => by simp only [impl_InstrsOk.l0]; rw [if_neg (by omega)])
      (fun i hi => by
        have e : ∀ k, impl_InstrsOk.l0 (k + 1) l l (l.length : Int) (i : Int) = if (1 ≤ (l.getD i z90).f0 ∧ (l.getD i z90).f0 ≤ 1000) then (if (1 ≤ (l.getD i z90).f1 ∧ (l.getD i z90).f1 ≤ 2) then (if 0 < i then (if (l.getD (i - 1) z90).f0 < (l.getD i z90).f0 then impl_InstrsOk.l0 k l l (l.length : Int) ((i + 1 : Nat) : Int) else some false) else impl_InstrsOk.l0 k l l (l.length : Int) ((i + 1 : Nat) : Int)) else some false) else some false := by
          intro k
          simp only [impl_InstrsOk.l0]
          rw [if_pos (by omega), if_pos (by omega), if_pos (by omega)]
          rw [w_succ hi (by omega)]
          by_cases h0 : 0 < i
          · rw [w_pred hi h0 (by omega)]
            simp only [no_i, in_i, Option.bind_some, decide_eq_true_iff, rdI]
            split
            · split
              · rw [if_pos (by omega), if_pos (by omega), if_pos (by omega)]
                split
                · rw [if_neg (by omega)]
                · rw [if_pos (by omega)]
              · rfl
            · rfl
          · simp only [no_i, in_i, Option.bind_some, decide_eq_true_iff, rdI]
            split
            · split
              · rw [if_neg (by omega)]
              · rfl
            · rfl
        by_cases hg : GoodI l i
        · refine .inl ⟨hg, fun k => ?_⟩
          show impl_InstrsOk.l0 (k + 1) l l (l.length : Int) (i : Int) = _
          rw [e k, if_pos hg.1, if_pos hg.2.1]
          split
          · rename_i h0
            rw [if_pos (hg.2.2 h0)]
          · rfl
        · refine .inr ⟨hg, fun k => ?_⟩
          show impl_InstrsOk.l0 (k + 1) l l (l.length : Int) (i : Int) = _
          rw [e k]
          unfold GoodI at hg
          split
          · rename_i h1
            split
            · rename_i h2
              split
              · rename_i h3
                rw [if_neg (fun h4 => hg ⟨h1, h2, fun _ => h4⟩)]
              · rename_i h3
                exact absurd ⟨h1, h2, fun h4 => absurd h4 h3⟩ hg
            · rfl
          · rfl) l.length 0 (by omega) (by omega)
  have hq : r = okI l := by
    rw [Bool.eq_iff_iff, hiff, okI_iff, decide_eq_true_iff]
    exact ⟨fun h => ⟨by omega, fun j hj => h.1 j (Nat.zero_le _) hj⟩, fun h => ⟨fun j _ hj => h.2 j hj, by have := h.1; omega⟩⟩
  subst hq
  exact hr
end Go.Proofs.Ytmfgajbkcnlkcaa.C1
namespace Go.Proofs.Ytmfgajbkcnlkcaa.C2
open Go Go.RowKit Go.Proofs.Ytmfgajbkcnlkcaa.P Go.Proofs.YtmfgajbkcnlkcaaW.PrintWords Go.Proofs.YtmfgajbkcnlkcaaW.PrintLast Go.Proofs.Ytmfgajbkcnlkcaa.EV Go.Proofs.Ytmfgajbkcnlkcaa.I1 Go.Proofs.Ytmfgajbkcnlkcaa.C1
def kindA : List S88 → Int → Int
  | [], _ => 0
  | x :: l, no => if x.f0 = no then x.f1 else kindA l no
theorem kindL_i (l : List S88) (no : Int) (hm : l.length ≤ 9223372036854775807) : Ev (fun k => impl_accountKind.f k l no) (kindA l no) := by
  unfold impl_accountKind.f
  have h := Ev_goes (fun k (_ : Unit) i => impl_accountKind.l0 k no l (l.length : Int) i) l.length (fun i _ => kindA (l.drop i) no) (fun _ _ => True)
    (fun s hs => Ev_one fun k => by
      simp only [impl_accountKind.l0]
      rw [if_neg (by omega), List.drop_length]
      rfl)
    (fun i s hi _ => by
      have hd : l.drop i = l.getD i z88 :: l.drop (i + 1) := by
        rw [List.drop_eq_getElem_cons hi, List.getD_eq_getElem?_getD, List.getElem?_eq_getElem hi]
        rfl
      have e : ∀ k, impl_accountKind.l0 (k + 1) no l (l.length : Int) (i : Int) = if (l.getD i z88).f0 = no then some (l.getD i z88).f1 else impl_accountKind.l0 k no l (l.length : Int) ((i + 1 : Nat) : Int) := by
        intro k
        simp only [impl_accountKind.l0]
        rw [if_pos (by omega), if_pos (by omega), if_pos (by omega), w_succ hi (by omega)]
        simp only [rdA]
      by_cases hq : (l.getD i z88).f0 = no
      · refine .inl (Ev_one fun k => ?_)
        show impl_accountKind.l0 (k + 1) no l (l.length : Int) (i : Int) = some (kindA (l.drop i) no)
        rw [e, if_pos hq, hd]
        unfold kindA
        rw [if_pos hq]
      · refine .inr ⟨(), trivial, ?_, fun k => ?_⟩
        · show kindA (l.drop (i + 1)) no = kindA (l.drop i) no
          rw [hd]
          conv => rhs; unfold kindA
          rw [if_neg hq]
        · show impl_accountKind.l0 (k + 1) no l (l.length : Int) (i : Int) = _
          rw [e, if_neg hq]) l.length 0 () (by omega) (by omega) trivial
  exact h
noncomputable def kindOkA (l : List S88) (no : Int) : Int := if okA l = true then kindA l no else 0
theorem kindOkA_s (l : List S88) (no : Int) (hm : l.length ≤ 9223372036854775807) : Ev (fun k => spec_AccountKind.f k l no) (kindOkA l no) := by
  unfold spec_AccountKind.f
  have h := Ev_goes' (fun k (_ : Unit) i => spec_AccountKind.l0 k l no i) l.length (fun i _ => if okA l = true then kindA (l.drop i) no else 0) (fun _ _ => True)
    (fun s hs => by
      refine Ev.step (f := fun k => spec_AccountKind.j1 k l no (l.length : Int) false) (fun k => ?_) (Ev_one fun k => ?_)
      · simp only [spec_AccountKind.l0]
        rw [if_neg (by omega)]
      · simp only [spec_AccountKind.j1]
        rw [if_neg (by decide), List.drop_length]
        split <;> rfl)
    (fun i s hi _ => by
      have hd := drop_getD z88 l i hi
      have e0 : ∀ k, spec_AccountKind.l0 (k + 1) l no (i : Int) = (spec_AccountsOk.f k l).bind fun t => spec_AccountKind.j1 k l no (i : Int) t := by
        intro k
        simp only [spec_AccountKind.l0]
        rw [if_pos (by omega)]
      cases hok : okA l with
      | false =>
        left
        refine Ev.step e0 (Ev_bind (accountsOk_s l) ?_)
        rw [hok, if_neg (by decide)]
        exact Ev_one fun k => by simp only [spec_AccountKind.j1]; rw [if_neg (by decide)]
      | true =>
        have e1 : ∀ k, spec_AccountKind.j1 (k + 1) l no (i : Int) true = if (l.getD i z88).f0 = no then some (l.getD i z88).f1 else spec_AccountKind.l0 k l no ((i + 1 : Nat) : Int) := by
          intro k
          simp only [spec_AccountKind.j1]
          rw [if_pos trivial, if_pos (by omega), if_pos (by omega), w_succ hi (by omega)]
          simp only [rdA]
        by_cases hq : (l.getD i z88).f0 = no
        · left
          refine Ev.step e0 (Ev_bind (accountsOk_s l) ?_)
          rw [hok, if_pos rfl, hd]
          unfold kindA
          rw [if_pos hq]
          exact Ev_one fun k => by rw [e1, if_pos hq]
        · refine .inr ⟨(), trivial, ?_, fun r hr => ?_⟩
          · rw [if_pos rfl, if_pos rfl, hd]
            conv => rhs; unfold kindA
            rw [if_neg hq]
          · refine Ev.step e0 (Ev_bind (accountsOk_s l) ?_)
            rw [hok]
            exact Ev.step (fun k => by rw [e1, if_neg hq]) hr) l.length 0 () (by omega) (by omega) trivial
  exact h
def kindI : List S90 → Int → Int
  | [], _ => 0
  | x :: l, no => if x.f0 = no then x.f1 else kindI l no
theorem kindM_i (l : List S90) (no : Int) (hm : l.length ≤ 9223372036854775807) : Ev (fun k => impl_instrKind.f k l no) (kindI l no) := by
  unfold impl_instrKind.f
  have h := Ev_goes (fun k (_ : Unit) i => impl_instrKind.l0 k no l (l.length : Int) i) l.length (fun i _ => kindI (l.drop i) no) (fun _ _ => True)
    (fun s hs => Ev_one fun k => by
      simp only [impl_instrKind.l0]
      rw [if_neg (by omega), List.drop_length]
      rfl)
    (fun i s hi _ => by
      have hd : l.drop i = l.getD i z90 :: l.drop (i + 1) := by
        rw [List.drop_eq_getElem_cons hi, List.getD_eq_getElem?_getD, List.getElem?_eq_getElem hi]
        rfl
      have e : ∀ k, impl_instrKind.l0 (k + 1) no l (l.length : Int) (i : Int) = if (l.getD i z90).f0 = no then some (l.getD i z90).f1 else impl_instrKind.l0 k no l (l.length : Int) ((i + 1 : Nat) : Int) := by
        intro k
        simp only [impl_instrKind.l0]
        rw [if_pos (by omega), if_pos (by omega), if_pos (by omega), w_succ hi (by omega)]
        simp only [rdI]
      by_cases hq : (l.getD i z90).f0 = no
      · refine .inl (Ev_one fun k => ?_)
        show impl_instrKind.l0 (k + 1) no l (l.length : Int) (i : Int) = some (kindI (l.drop i) no)
        rw [e, if_pos hq, hd]
        unfold kindI
        rw [if_pos hq]
      · refine .inr ⟨(), trivial, ?_, fun k => ?_⟩
        · show kindI (l.drop (i + 1)) no = kindI (l.drop i) no
          rw [hd]
          conv => rhs; unfold kindI
          rw [if_neg hq]
        · show impl_instrKind.l0 (k + 1) no l (l.length : Int) (i : Int) = _
          rw [e, if_neg hq]) l.length 0 () (by omega) (by omega) trivial
  exact h
noncomputable def kindOkI (l : List S90) (no : Int) : Int := if okI l = true then kindI l no else 0
theorem kindOkI_s (l : List S90) (no : Int) (hm : l.length ≤ 9223372036854775807) : Ev (fun k => spec_InstrKind.f k l no) (kindOkI l no) := by
  unfold spec_InstrKind.f
  have h := Ev_goes' (fun k (_ : Unit) i => spec_InstrKind.l0 k l no i) l.length (fun i _ => if okI l = true then kindI (l.drop i) no else 0) (fun _ _ => True)
    (fun s hs => by
      refine Ev.step (f := fun k => spec_InstrKind.j1 k l no (l.length : Int) false) (fun k => ?_) (Ev_one fun k => ?_)
      · simp only [spec_InstrKind.l0]
        rw [if_neg (by omega)]
      · simp only [spec_InstrKind.j1]
        rw [if_neg (by decide), List.drop_length]
        split <;> rfl)
    (fun i s hi _ => by
      have hd := drop_getD z90 l i hi
      have e0 : ∀ k, spec_InstrKind.l0 (k + 1) l no (i : Int) = (spec_InstrsOk.f k l).bind fun t => spec_InstrKind.j1 k l no (i : Int) t := by
        intro k
        simp only [spec_InstrKind.l0]
        rw [if_pos (by omega)]
      cases hok : okI l with
      | false =>
        left
        refine Ev.step e0 (Ev_bind (instrsOk_s l) ?_)
        rw [hok, if_neg (by decide)]
        exact Ev_one fun k => by simp only [spec_InstrKind.j1]; rw [if_neg (by decide)]
      | true =>
        have e1 : ∀ k, spec_InstrKind.j1 (k + 1) l no (i : Int) true = if (l.getD i z90).f0 = no then some (l.getD i z90).f1 else spec_InstrKind.l0 k l no ((i + 1 : Nat) : Int) := by
          intro k
          simp only [spec_InstrKind.j1]
          rw [if_pos trivial, if_pos (by omega), if_pos (by omega), w_succ hi (by omega)]
          simp only [rdI]
        by_cases hq : (l.getD i z90).f0 = no
        · left
          refine Ev.step e0 (Ev_bind (instrsOk_s l) ?_)
          rw [hok, if_pos rfl, hd]
          unfold kindI
          rw [if_pos hq]
          exact Ev_one fun k => by rw [e1, if_pos hq]
        · refine .inr ⟨(), trivial, ?_, fun r hr => ?_⟩
          · rw [if_pos rfl, if_pos rfl, hd]
            conv => rhs; unfold kindI
            rw [if_neg hq]
          · refine Ev.step e0 (Ev_bind (instrsOk_s l) ?_)
            rw [hok]
            exact Ev.step (fun k => by rw [e1, if_neg hq]) hr) l.length 0 () (by omega) (by omega) trivial
  exact h
end Go.Proofs.Ytmfgajbkcnlkcaa.C2
namespace Go.Proofs.Ytmfgajbkcnlkcaa.B1
open Go Go.RowKit Go.Proofs.Ytmfgajbkcnlkcaa.P Go.Proofs.YtmfgajbkcnlkcaaW.PrintWords Go.Proofs.YtmfgajbkcnlkcaaW.PrintLast Go.Proofs.Ytmfgajbkcnlkcaa.EV Go.Proofs.Ytmfgajbkcnlkcaa.I1 Go.Proofs.Ytmfgajbkcnlkcaa.N1
def Bef (a b c d : Int) : Prop := a < c ∨ (a = c ∧ b < d)
instance (a b c d : Int) : Decidable (Bef a b c d) := by unfold Bef; exact inferInstance
def cmp (a b c d : Int) : Int := if Bef a b c d then -1 else (if a = c ∧ b = d then 0 else 1)
theorem before_s (a b c d : Int) : spec_l4Before.f a b c d = some (decide (Bef a b c d)) := by
  unfold spec_l4Before.f
  by_cases h : a < c
  · rw [if_pos h, decide_eq_true (show Bef a b c d from .inl h)]
  · rw [if_neg h]
    by_cases h2 : a = c
    · rw [if_pos h2]
      congr 1
      rw [Bool.eq_iff_iff, decide_eq_true_iff, decide_eq_true_iff]
      exact ⟨fun g => .inr ⟨h2, g⟩, fun g => g.elim (fun g => absurd g h) (fun g => g.2)⟩
    · rw [if_neg h2, decide_eq_false (show ¬ Bef a b c d from fun g => g.elim h fun g => h2 g.1)]
theorem both_i (a b c d : Int) : Ev (fun k => impl_byBoth.f k a b c d) (cmp a b c d) := by
  unfold impl_byBoth.f
  have yes : Bef a b c d → Ev (fun k => impl_byBoth.j0 k a b c d true) (cmp a b c d) := fun h => Ev_one fun k => by
    simp only [impl_byBoth.j0]
    rw [if_pos trivial]
    unfold cmp
    rw [if_pos h]
  have no : ¬ Bef a b c d → Ev (fun k => impl_byBoth.j0 k a b c d false) (cmp a b c d) := fun h => Ev_one fun k => by
    simp only [impl_byBoth.j0]
    rw [if_neg (by decide)]
    unfold cmp
    rw [if_neg h]
    by_cases h1 : a = c
    · by_cases h2 : b = d
      · rw [if_pos h1, if_pos h2, if_pos ⟨h1, h2⟩]
      · rw [if_pos h1, if_neg h2, if_neg fun g => h2 g.2]
    · rw [if_neg h1, if_neg fun g => h1 g.1]
  by_cases h : a < c
  · exact Ev.congr (fun k => by rw [if_pos h]) (yes (.inl h))
  · by_cases h2 : a = c
    · by_cases h3 : b < d
      · exact Ev.congr (fun k => by rw [if_neg h, if_pos h2, decide_eq_true h3]) (yes (.inr ⟨h2, h3⟩))
      · exact Ev.congr (fun k => by rw [if_neg h, if_pos h2, decide_eq_false h3]) (no fun g => g.elim h fun g => h3 g.2)
    · exact Ev.congr (fun k => by rw [if_neg h, if_neg h2]) (no fun g => g.elim h fun g => h2 g.1)
theorem cmp_neg {a b c d : Int} : cmp a b c d ≥ 0 ↔ ¬ Bef a b c d := by
  unfold cmp
  by_cases h : Bef a b c d
  · rw [if_pos h]
    exact ⟨fun g => absurd g (by decide), fun g => absurd h g⟩
  · rw [if_neg h]
    refine ⟨fun _ => h, fun _ => ?_⟩
    split <;> decide
theorem cmp_zero {a b c d : Int} : cmp a b c d = 0 ↔ a = c ∧ b = d := by
  unfold cmp
  by_cases h : Bef a b c d
  · rw [if_pos h]
    refine ⟨fun g => absurd g (by decide), fun g => ?_⟩
    unfold Bef at h
    omega
  · rw [if_neg h]
    by_cases h2 : a = c ∧ b = d
    · rw [if_pos h2]; exact ⟨fun _ => h2, fun _ => rfl⟩
    · rw [if_neg h2]; exact ⟨fun g => absurd g (by decide), fun g => absurd g h2⟩
theorem rdB (l : List S93) (i : Nat) : rd_T93 l (i : Int) = l.getD i z93 := by unfold rd_T93; rw [Int.toNat_natCast]
def GoodB (l : List S93) (j : Nat) : Prop :=
  No (l.getD j z93).f0 ∧ No (l.getD j z93).f1 ∧ Amt (l.getD j z93).f2 ∧ (l.getD j z93).f2 ≠ 0 ∧ (0 < j → Bef (l.getD (j - 1) z93).f0 (l.getD (j - 1) z93).f1 (l.getD j z93).f0 (l.getD j z93).f1)
def OkB (l : List S93) : Prop := l.length ≤ 160 ∧ ∀ j, j < l.length → GoodB l j
noncomputable def okB (l : List S93) : Bool := @decide (OkB l) (Classical.propDecidable _)
theorem okB_iff (l : List S93) : okB l = true ↔ OkB l := by unfold okB; exact @decide_eq_true_iff _ (Classical.propDecidable _)
theorem okB_no {l : List S93} (h : ¬ OkB l) : okB l = false := by rw [Bool.eq_false_iff, Ne, okB_iff]; exact h
theorem balsOk_s (l : List S93) : Ev (fun k => spec_BalsOk.f k l) (okB l) := by
  unfold spec_BalsOk.f
  by_cases hn : (l.length : Int) > 160
  · rw [okB_no fun h => by have := h.1; omega]
    exact Ev_all_k fun k => by rw [if_pos hn]
  · obtain ⟨r, hr, hiff⟩ := Ev_asks (fun k i => spec_BalsOk.l0 k l i) l.length (GoodB l) true
      (Ev_one fun k => by simp only [spec_BalsOk.l0]; rw [if_neg (by omega)])
      (fun i hi => by
        have e : ∀ k, spec_BalsOk.l0 (k + 1) l (i : Int) = if No (l.getD i z93).f0 then (if No (l.getD i z93).f1 then (if Amt (l.getD i z93).f2 then (if (l.getD i z93).f2 = 0 then some false else (if 0 < i then (if Bef (l.getD (i - 1) z93).f0 (l.getD (i - 1) z93).f1 (l.getD i z93).f0 (l.getD i z93).f1 then spec_BalsOk.l0 k l ((i + 1 : Nat) : Int) else some false) else spec_BalsOk.l0 k l ((i + 1 : Nat) : Int))) else some false) else some false) else some false := by
          intro k
          simp only [spec_BalsOk.l0]
          rw [if_pos (by omega), if_pos (by omega), w_succ hi (by omega)]
          by_cases h0 : 0 < i
          · rw [w_pred hi h0 (by omega)]
            simp only [no_s, amt_s, before_s, Option.bind_some, decide_eq_true_iff, rdB]
            simp only [if_pos (show (i : Int) > 0 by omega), if_pos (show (0 : Int) ≤ ((i - 1 : Nat) : Int) by omega), if_pos (show ((i - 1 : Nat) : Int) < (l.length : Int) by omega), if_pos h0]
          · simp only [no_s, amt_s, before_s, Option.bind_some, decide_eq_true_iff, rdB]
            simp only [if_neg (show ¬ (i : Int) > 0 by omega), if_neg h0]
        by_cases hg : GoodB l i
        · refine .inl ⟨hg, fun k => ?_⟩
          obtain ⟨g1, g2, g3, g4, g5⟩ := hg
          show spec_BalsOk.l0 (k + 1) l (i : Int) = _
          rw [e k, if_pos g1, if_pos g2, if_pos g3, if_neg g4]
          split
          · rename_i h0
            rw [if_pos (g5 h0)]
          · rfl
        · refine .inr ⟨hg, fun k => ?_⟩
          show spec_BalsOk.l0 (k + 1) l (i : Int) = _
          rw [e k]
          unfold GoodB at hg
          split
          · rename_i h1
            split
            · rename_i h2
              split
              · rename_i h3
                split
                · rfl
                · rename_i h4
                  split
                  · rw [if_neg (fun h6 => hg ⟨h1, h2, h3, h4, fun _ => h6⟩)]
                  · rename_i h5
                    exact absurd ⟨h1, h2, h3, h4, fun h6 => absurd h6 h5⟩ hg
              · rfl
            · rfl
          · rfl) l.length 0 (by omega) (by omega)
    have hq : r = okB l := by
      rw [Bool.eq_iff_iff, hiff, okB_iff]
      exact ⟨fun h => ⟨by omega, fun j hj => h.1 j (Nat.zero_le _) hj⟩, fun h => ⟨fun j _ hj => h.2 j hj, rfl⟩⟩
    subst hq
    exact Ev.congr (fun k => by rw [if_neg hn]; rfl) hr
theorem balsOk_i (l : List S93) (hm : l.length ≤ 9223372036854775807) : Ev (fun k => impl_BalsOk.f k l) (okB l) := by
  unfold impl_BalsOk.f
  obtain ⟨r, hr, hiff⟩ := Ev_asks' (fun k i => impl_BalsOk.l0 k l l (l.length : Int) i) l.length (GoodB l) (decide ((l.length : Int) ≤ 160))
      (Ev_one fun k => by simp only [impl_BalsOk.l0]; rw [if_neg (by omega)])
      (fun i hi => by
        -- the round's first part: what it asks of the balance itself
        have e : ∀ k, impl_BalsOk.l0 (k + 1) l l (l.length : Int) (i : Int) = impl_BalsOk.j1 k l (i : Int) l (l.length : Int) (i : Int) (!decide (No (l.getD i z93).f0 ∧ No (l.getD i z93).f1 ∧ Amt (l.getD i z93).f2 ∧ (l.getD i z93).f2 ≠ 0)) (l.getD i z93).f0 (l.getD i z93).f1 (l.getD i z93).f2 := by
          intro k
          simp only [impl_BalsOk.l0]
          rw [if_pos (by omega), if_pos (by omega), if_pos (by omega)]
          simp only [no_i, amt_i, Option.bind_some, decide_eq_true_iff, rdB]
          by_cases h1 : No (l.getD i z93).f0
          · by_cases h2 : No (l.getD i z93).f1
            · by_cases h3 : Amt (l.getD i z93).f2
              · rw [if_pos h1, if_pos h2, if_pos h3]
                congr 1
                by_cases h4 : (l.getD i z93).f2 = 0
                · rw [decide_eq_false (fun g => g.2.2.2 h4), h4]; rfl
                · rw [decide_eq_true (show _ ∧ _ from ⟨h1, h2, h3, h4⟩)]; simpa using h4
              · rw [if_pos h1, if_pos h2, if_neg h3, decide_eq_false (fun g => h3 g.2.2.1)]; rfl
            · rw [if_pos h1, if_neg h2, decide_eq_false (fun g => h2 g.2.1)]; rfl
          · rw [if_neg h1, decide_eq_false (fun g => h1 g.1)]; rfl
        by_cases hw : No (l.getD i z93).f0 ∧ No (l.getD i z93).f1 ∧ Amt (l.getD i z93).f2 ∧ (l.getD i z93).f2 ≠ 0
        · by_cases h0 : 0 < i
          · have e2 : ∀ k, impl_BalsOk.j1 (k + 1) l (i : Int) l (l.length : Int) (i : Int) false (l.getD i z93).f0 (l.getD i z93).f1 (l.getD i z93).f2 = (impl_byBoth.f k (l.getD (i - 1) z93).f0 (l.getD (i - 1) z93).f1 (l.getD i z93).f0 (l.getD i z93).f1).bind fun t => if t ≥ 0 then some false else impl_BalsOk.l0 k l l (l.length : Int) ((i + 1 : Nat) : Int) := by
              intro k
              simp only [impl_BalsOk.j1]
              rw [if_neg (by decide), if_pos (by omega), w_pred hi h0 (by omega), if_pos (by omega), if_pos (by omega), w_succ hi (by omega)]
              simp only [rdB]
            by_cases hb : Bef (l.getD (i - 1) z93).f0 (l.getD (i - 1) z93).f1 (l.getD i z93).f0 (l.getD i z93).f1
            · refine .inl ⟨⟨hw.1, hw.2.1, hw.2.2.1, hw.2.2.2, fun _ => hb⟩, fun r hr => ?_⟩
              refine Ev.step (fun k => by rw [e k, decide_eq_true hw]) (Ev.step e2 (Ev_bind (both_i _ _ _ _) ?_))
              exact Ev.congr (fun k => by rw [if_neg (fun g => cmp_neg.1 g hb)]) hr
            · refine .inr ⟨fun g => hb (g.2.2.2.2 h0), ?_⟩
              refine Ev.step (fun k => by rw [e k, decide_eq_true hw]) (Ev.step e2 (Ev_bind (both_i _ _ _ _) ?_))
              exact Ev_all_k fun k => by rw [if_pos (cmp_neg.2 hb)]
          · refine .inl ⟨⟨hw.1, hw.2.1, hw.2.2.1, hw.2.2.2, fun g => absurd g h0⟩, fun r hr => ?_⟩
            refine Ev.step (fun k => by rw [e k, decide_eq_true hw]) (Ev.step (fun k => ?_) hr)
            show impl_BalsOk.j1 (k + 1) l (i : Int) l (l.length : Int) (i : Int) false _ _ _ = _
            simp only [impl_BalsOk.j1]
            rw [if_neg (by decide), if_neg (by omega), w_succ hi (by omega)]
        · refine .inr ⟨fun g => hw ⟨g.1, g.2.1, g.2.2.1, g.2.2.2.1⟩, ?_⟩
          refine Ev.step (fun k => by rw [e k, decide_eq_false hw]) (Ev_one fun k => ?_)
          show impl_BalsOk.j1 (k + 1) l (i : Int) l (l.length : Int) (i : Int) true _ _ _ = _
          simp only [impl_BalsOk.j1]
          rw [if_pos trivial]) l.length 0 (by omega) (by omega)
  have hq : r = okB l := by
    rw [Bool.eq_iff_iff, hiff, okB_iff, decide_eq_true_iff]
    exact ⟨fun h => ⟨by omega, fun j hj => h.1 j (Nat.zero_le _) hj⟩, fun h => ⟨fun j _ hj => h.2 j hj, by have := h.1; omega⟩⟩
  subst hq
  exact hr
end Go.Proofs.Ytmfgajbkcnlkcaa.B1
namespace Go.Proofs.Ytmfgajbkcnlkcaa.B2
open Go Go.RowKit Go.Proofs.Ytmfgajbkcnlkcaa.P Go.Proofs.YtmfgajbkcnlkcaaW.PrintWords Go.Proofs.YtmfgajbkcnlkcaaW.PrintLast Go.Proofs.Ytmfgajbkcnlkcaa.EV Go.Proofs.Ytmfgajbkcnlkcaa.I1 Go.Proofs.Ytmfgajbkcnlkcaa.N1 Go.Proofs.Ytmfgajbkcnlkcaa.B1
abbrev SB := S93
def ofB (a b : Int) : List SB → Int
  | [] => 0
  | x :: l => if x.f0 = a ∧ x.f1 = b then x.f2 else ofB a b l
theorem ofB_drop (a b : Int) (l : List SB) (i : Nat) (hi : i < l.length) : ofB a b (l.drop i) = if (l.getD i z93).f0 = a ∧ (l.getD i z93).f1 = b then (l.getD i z93).f2 else ofB a b (l.drop (i + 1)) := by
  rw [drop_getD z93 l i hi]; rfl
theorem of_s (l : List SB) (a b : Int) (hm : l.length ≤ 9223372036854775807) : Ev (fun k => spec_l4Of.f k l a b) (ofB a b l) := by
  unfold spec_l4Of.f
  have h := Ev_goes (fun k (_ : Unit) i => spec_l4Of.l0 k l a b i) l.length (fun i _ => ofB a b (l.drop i)) (fun _ _ => True)
    (fun _ _ => Ev_one fun k => by
      simp only [spec_l4Of.l0]
      rw [if_neg (by omega), List.drop_length]
      rfl)
    (fun i _ hi _ => by
      by_cases h : (l.getD i z93).f0 = a ∧ (l.getD i z93).f1 = b
      · refine .inl (Ev_one fun k => ?_)
        simp only [spec_l4Of.l0, rdB]
        rw [if_pos (by omega), if_pos (by omega), if_pos h.1, if_pos h.2, ofB_drop a b l i hi, if_pos h]
      · refine .inr ⟨(), trivial, by show ofB a b (l.drop (i + 1)) = ofB a b (l.drop i); rw [ofB_drop a b l i hi, if_neg h], fun k => ?_⟩
        show spec_l4Of.l0 (k + 1) l a b (i : Int) = _
        simp only [spec_l4Of.l0, rdB]
        rw [if_pos (by omega), if_pos (by omega), w_succ hi (by omega)]
        by_cases h1 : (l.getD i z93).f0 = a
        · rw [if_pos h1, if_neg fun h2 => h ⟨h1, h2⟩]
        · rw [if_neg h1]) l.length 0 () (by omega) (by omega) trivial
  rw [List.drop_zero] at h
  exact h
theorem ahead {l : List SB} (h : ∀ j, j < l.length → GoodB l j) : ∀ (d i j : Nat), j - i = d → i < j → j < l.length → Bef (l.getD i z93).f0 (l.getD i z93).f1 (l.getD j z93).f0 (l.getD j z93).f1 := by
  intro d
  induction d with
  | zero => intro i j h1 h2; omega
  | succ d ih =>
    intro i j hd hi hj
    have g := (h j hj).2.2.2.2 (by omega)
    rcases Nat.lt_or_ge i (j - 1) with h2 | h2
    · have g2 := ih i (j - 1) (by omega) h2 (by omega)
      unfold Bef at *
      omega
    · obtain rfl : i = j - 1 := by omega
      exact g
theorem ofB_none (a b : Int) : ∀ (l : List SB), (∀ x ∈ l, ¬ (x.f0 = a ∧ x.f1 = b)) → ofB a b l = 0
  | [], _ => rfl
  | x :: l, h => by
    unfold ofB
    rw [if_neg (h x List.mem_cons_self)]
    exact ofB_none a b l fun y hy => h y (List.mem_cons_of_mem _ hy)
theorem mem_drop {l : List SB} {i : Nat} {x : SB} (h : x ∈ l.drop i) : ∃ j, i ≤ j ∧ j < l.length ∧ l.getD j z93 = x := by
  obtain ⟨j, hj, rfl⟩ := List.getElem_of_mem h
  rw [List.length_drop] at hj
  refine ⟨i + j, by omega, by omega, ?_⟩
  rw [List.getD_eq_getElem?_getD, List.getElem?_eq_getElem (by omega), List.getElem_drop]
  rfl
def atB (a b : Int) : List SB → Nat → Nat × Bool
  | [], i => (i, false)
  | x :: l, i => if cmp x.f0 x.f1 a b ≥ 0 then (i, cmp x.f0 x.f1 a b == 0) else atB a b l (i + 1)
theorem atB_drop (a b : Int) (l : List SB) (i : Nat) (hi : i < l.length) : atB a b (l.drop i) i = if cmp (l.getD i z93).f0 (l.getD i z93).f1 a b ≥ 0 then (i, cmp (l.getD i z93).f0 (l.getD i z93).f1 a b == 0) else atB a b (l.drop (i + 1)) (i + 1) := by
  rw [drop_getD z93 l i hi]; rfl
theorem atB_range (a b : Int) : ∀ (l : List SB) (i : Nat), i ≤ (atB a b l i).1 ∧ (atB a b l i).1 ≤ i + l.length ∧ ((atB a b l i).2 = true → (atB a b l i).1 < i + l.length)
  | [], i => by unfold atB; simp
  | x :: l, i => by
    unfold atB
    have := atB_range a b l (i + 1)
    rw [List.length_cons]
    split
    · exact ⟨Nat.le_refl _, by show i ≤ _; omega, fun _ => by show i < _; omega⟩
    · exact ⟨by omega, by omega, fun h => by have := this.2.2 h; omega⟩
theorem at_i (l : List SB) (a b : Int) (hm : l.length ≤ 9223372036854775807) : Ev (fun k => impl_balAt.f k l a b) (((atB a b l 0).1 : Int), (atB a b l 0).2) := by
  unfold impl_balAt.f
  have h := Ev_goes' (fun k (_ : Unit) i => impl_balAt.l0 k l a b l (l.length : Int) i) l.length (fun i _ => (((atB a b (l.drop i) i).1 : Int), (atB a b (l.drop i) i).2)) (fun _ _ => True)
    (fun _ _ => Ev_one fun k => by
      simp only [impl_balAt.l0]
      rw [if_neg (by omega), List.drop_length]
      rfl)
    (fun i _ hi _ => by
      have e : ∀ k, impl_balAt.l0 (k + 1) l a b l (l.length : Int) (i : Int) = (impl_byBoth.f k (l.getD i z93).f0 (l.getD i z93).f1 a b).bind fun t => if t ≥ 0 then some ((i : Int), t == 0) else impl_balAt.l0 k l a b l (l.length : Int) ((i + 1 : Nat) : Int) := by
        intro k
        simp only [impl_balAt.l0, rdB]
        rw [if_pos (by omega), if_pos (by omega), if_pos (by omega), w_succ hi (by omega)]
      by_cases h : cmp (l.getD i z93).f0 (l.getD i z93).f1 a b ≥ 0
      · refine .inl (Ev.step e (Ev_bind (both_i _ _ _ _) (Ev_all_k fun k => ?_)))
        rw [if_pos h, atB_drop a b l i hi, if_pos h]
      · refine .inr ⟨(), trivial, by show (((atB a b (l.drop (i + 1)) (i + 1)).1 : Int), (atB a b (l.drop (i + 1)) (i + 1)).2) = (((atB a b (l.drop i) i).1 : Int), (atB a b (l.drop i) i).2); rw [atB_drop a b l i hi, if_neg h], fun r hr => ?_⟩
        exact Ev.step e (Ev_bind (both_i _ _ _ _) (Ev.congr (fun k => by rw [if_neg h]) hr))) l.length 0 () (by omega) (by omega) trivial
  rw [List.drop_zero] at h
  exact h
theorem at_of {l : List SB} (h : ∀ j, j < l.length → GoodB l j) (a b : Int) : ∀ (d i : Nat), l.length - i = d → i ≤ l.length → (if (atB a b (l.drop i) i).2 = true then (l.getD (atB a b (l.drop i) i).1 z93).f2 else 0) = ofB a b (l.drop i) := by
  intro d
  induction d with
  | zero =>
    intro i hd hi
    obtain rfl : i = l.length := by omega
    rw [List.drop_length]
    rfl
  | succ d ih =>
    intro i hd hi
    have hi2 : i < l.length := by omega
    rw [atB_drop a b l i hi2, ofB_drop a b l i hi2]
    by_cases h1 : cmp (l.getD i z93).f0 (l.getD i z93).f1 a b ≥ 0
    · rw [if_pos h1]
      by_cases h2 : (l.getD i z93).f0 = a ∧ (l.getD i z93).f1 = b
      · rw [if_pos h2, cmp_zero.2 h2]
        rfl
      · rw [if_neg h2, if_neg (by simp only [beq_iff_eq]; rw [cmp_zero]; exact h2)]
        symm
        apply ofB_none
        intro x hx
        obtain ⟨j, hj1, hj2, rfl⟩ := mem_drop hx
        have g := ahead h (j - i) i j rfl (by omega) hj2
        have g2 := cmp_neg.1 h1
        unfold Bef at g g2
        omega
    · rw [if_neg h1, ih (i + 1) (by omega) (by omega)]
      rw [if_neg]
      intro h2
      exact h1 (by rw [cmp_zero.2 h2]; decide)
theorem of_i {l : List SB} (h : OkB l) (a b : Int) : Ev (fun k => impl_balOf.f k l a b) (ofB a b l) := by
  unfold impl_balOf.f
  have h1 := h.1
  refine Ev_bind (at_i l a b (by omega)) ?_
  have g := at_of h.2 a b l.length 0 (by omega) (by omega)
  have r := atB_range a b l 0
  rw [List.drop_zero] at g
  rw [← g]
  by_cases h2 : (atB a b l 0).2 = true
  · refine Ev_all_k fun k => ?_
    have := r.2.2 h2
    rw [if_pos h2, if_pos h2, if_pos (by show (0 : Int) ≤ ((atB a b l 0).1 : Int); omega), if_pos (by show ((atB a b l 0).1 : Int) < _; omega), rdB]
  · refine Ev_all_k fun k => ?_
    rw [if_neg h2, if_neg h2]
def sumB (a : Int) : List SB → Int
  | [] => 0
  | x :: l => (if x.f1 = a then x.f2 else 0) + sumB a l
theorem sumB_drop (a : Int) (l : List SB) (i : Nat) (hi : i < l.length) : sumB a (l.drop i) = (if (l.getD i z93).f1 = a then (l.getD i z93).f2 else 0) + sumB a (l.drop (i + 1)) := by
  rw [drop_getD z93 l i hi]; rfl
theorem sumB_bound {l : List SB} (h : ∀ j, j < l.length → GoodB l j) (a : Int) : ∀ (d i : Nat), l.length - i = d → i ≤ l.length → -(1000000000000000 * (l.length - i : Int)) ≤ sumB a (l.drop i) ∧ sumB a (l.drop i) ≤ 1000000000000000 * (l.length - i : Int) := by
  intro d
  induction d with
  | zero =>
    intro i hd hi
    obtain rfl : i = l.length := by omega
    rw [List.drop_length]
    unfold sumB
    omega
  | succ d ih =>
    intro i hd hi
    rw [sumB_drop a l i (by omega)]
    have := ih (i + 1) (by omega) (by omega)
    have g : Amt _ := (h i (by omega)).2.2.1
    unfold Amt at g
    split <;> omega
def told (n : Int) (ok : Bool) : Int × Bool := if ok = true ∧ Amt n then (n, true) else (0, false)
theorem told_s (n : Int) (ok : Bool) : spec_l1Told.f n ok = some (told n ok) := by
  unfold spec_l1Told.f told
  rw [amt_s, Option.bind_some]
  cases ok with
  | true =>
    rw [if_pos rfl]
    by_cases h : Amt n
    · rw [if_pos (decide_eq_true h), if_pos ⟨rfl, h⟩]
    · rw [if_neg (by rw [decide_eq_false h]; decide), if_neg fun g => h g.2]
  | false => rw [if_neg (by decide), if_neg fun g => absurd g.1 (by decide)]
theorem sum_i {l : List SB} (h : OkB l) (a : Int) : Ev (fun k => impl_balsSum.f k l a) (sumB a l) := by
  unfold impl_balsSum.f
  have h1 := h.1
  have hb := fun i hi => sumB_bound h.2 a (l.length - i) i rfl hi
  have h' := Ev_goes (fun k s i => impl_balsSum.l0 k a s l (l.length : Int) i) l.length (fun i s => s + sumB a (l.drop i)) (fun i s => s + sumB a (l.drop i) = sumB a l)
    (fun s hs => Ev_one fun k => by
      simp only [impl_balsSum.l0]
      rw [if_neg (by omega), List.drop_length]
      show some s = some (s + 0)
      rw [Int.add_zero])
    (fun i s hi hs => by
      have e := sumB_drop a l i hi
      have b0 := hb 0 (by omega)
      have b1 := hb (i + 1) (by omega)
      rw [List.drop_zero] at b0
      refine .inr ⟨s + (if (l.getD i z93).f1 = a then (l.getD i z93).f2 else 0), by omega, by omega, fun k => ?_⟩
      show impl_balsSum.l0 (k + 1) a s l (l.length : Int) (i : Int) = _
      simp only [impl_balsSum.l0, rdB]
      rw [if_pos (by omega), if_pos (by omega), if_pos (by omega), w_succ hi (by omega)]
      by_cases h2 : (l.getD i z93).f1 = a
      · rw [if_pos h2] at e
        rw [if_pos h2, if_pos h2, w64_in _ (by omega) (by omega)]
      · rw [if_neg h2, if_neg h2, Int.add_zero]) l.length 0 0 (by omega) (by omega) (by rw [List.drop_zero]; omega)
  rw [List.drop_zero, Int.zero_add] at h'
  exact h'
noncomputable def balsSum (l : List SB) (a : Int) : Int × Bool := if okB l = true then told (sumB a l) true else (0, false)
theorem balsSum_s (l : List SB) (a : Int) : Ev (fun k => spec_BalsSum.f k l a) (balsSum l a) := by
  unfold spec_BalsSum.f balsSum
  have last : ∀ s : Int, (okB l = false → s = 0) → Ev (fun k => (spec_BalsOk.f k l).bind fun t214 => ((spec_l1Told.f s t214).bind fun bt215 => (some (bt215.1, bt215.2)))) (if okB l = true then told s true else (0, false)) := fun s _ => by
    refine Ev_bind (balsOk_s l) (Ev_all_k fun k => ?_)
    rw [told_s]
    cases okB l with
    | true => rfl
    | false => rw [if_neg (by decide)]; unfold told; rw [if_neg fun g => absurd g.1 (by decide)]; rfl
  by_cases h : OkB l
  · have h1 := h.1
    have ht := (okB_iff l).2 h
    have hb := fun i hi => sumB_bound h.2 a (l.length - i) i rfl hi
    have h' := Ev_goes' (fun k s i => spec_BalsSum.l0 k l a s i) l.length (fun i s => if okB l = true then told (s + sumB a (l.drop i)) true else (0, false)) (fun i s => s + sumB a (l.drop i) = sumB a l)
      (fun s hs => by
        refine Ev.step (f := fun k => spec_BalsSum.j1 k l a s (l.length : Int) false) (fun k => by simp only [spec_BalsSum.l0]; rw [if_neg (by omega)]) ?_
        refine Ev.step (fun k => by simp only [spec_BalsSum.j1]; rw [if_neg (by decide)]) ?_
        have := last s (fun g => by rw [ht] at g; cases g)
        rw [List.drop_length]
        show Ev _ (if okB l = true then told (s + 0) true else (0, false))
        rw [Int.add_zero]
        exact this)
      (fun i s hi hs => by
        have e := sumB_drop a l i hi
        have b0 := hb 0 (by omega)
        have b1 := hb (i + 1) (by omega)
        rw [List.drop_zero] at b0
        refine .inr ⟨s + (if (l.getD i z93).f1 = a then (l.getD i z93).f2 else 0), by omega, by
          show (if okB l = true then told (s + (if (l.getD i z93).f1 = a then (l.getD i z93).f2 else 0) + sumB a (l.drop (i + 1))) true else (0, false)) = if okB l = true then told (s + sumB a (l.drop i)) true else (0, false)
          rw [e, Int.add_assoc], fun r hr => ?_⟩
        refine Ev.step (f := fun k => (spec_BalsOk.f k l).bind fun t211 => spec_BalsSum.j1 k l a s (i : Int) t211) (fun k => by simp only [spec_BalsSum.l0]; rw [if_pos (by omega)]) (Ev_bind (balsOk_s l) ?_)
        rw [ht]
        refine Ev.step (fun k => ?_) hr
        show spec_BalsSum.j1 (k + 1) l a s (i : Int) true = _
        simp only [spec_BalsSum.j1, rdB]
        rw [if_pos trivial, if_pos (by omega), if_pos (by omega), w_succ hi (by omega)]
        by_cases h2 : (l.getD i z93).f1 = a
        · rw [if_pos h2] at e
          rw [if_pos h2, if_pos h2, w64_in _ (by omega) (by omega)]
        · rw [if_neg h2, if_neg h2, Int.add_zero]) l.length 0 0 (by omega) (by omega) (by rw [List.drop_zero]; omega)
    rw [List.drop_zero, Int.zero_add] at h'
    exact h'
  · have hf := okB_no h
    have hr : (if okB l = true then told (sumB a l) true else (0, false)) = (if okB l = true then told 0 true else (0, false)) := by rw [hf]; rfl
    rw [hr]
    by_cases h0 : (0 : Int) < (l.length : Int)
    · refine Ev.step (f := fun k => (spec_BalsOk.f k l).bind fun t211 => spec_BalsSum.j1 k l a 0 0 t211) (fun k => by simp only [spec_BalsSum.l0]; rw [if_pos h0]) (Ev_bind (balsOk_s l) ?_)
      have hz := last 0 fun _ => rfl
      rw [hf] at hz ⊢
      refine Ev.step (fun k => by simp only [spec_BalsSum.j1]; rw [if_neg (by decide)]) ?_
      exact hz
    · refine Ev.step (f := fun k => spec_BalsSum.j1 k l a 0 0 false) (fun k => by simp only [spec_BalsSum.l0]; rw [if_neg h0]) ?_
      refine Ev.step (fun k => by simp only [spec_BalsSum.j1]; rw [if_neg (by decide)]) ?_
      exact last 0 fun _ => rfl
end Go.Proofs.Ytmfgajbkcnlkcaa.B2
namespace Go.Proofs.Ytmfgajbkcnlkcaa.E1
open Go Go.RowKit Go.Proofs.Ytmfgajbkcnlkcaa.P Go.Proofs.YtmfgajbkcnlkcaaW.PrintWords Go.Proofs.YtmfgajbkcnlkcaaW.PrintLast Go.Proofs.Ytmfgajbkcnlkcaa.EV Go.Proofs.Ytmfgajbkcnlkcaa.I1 Go.Proofs.Ytmfgajbkcnlkcaa.N1
abbrev SL := S96
theorem rdL (l : List SL) (i : Nat) : rd_T96 l (i : Int) = l.getD i z96 := by unfold rd_T96; rw [Int.toNat_natCast]
def Form (x : SL) : Prop := No x.f0 ∧ No x.f1 ∧ (1 ≤ x.f2 ∧ x.f2 ≤ 1000000000) ∧ (1 ≤ x.f3 ∧ x.f3 ≤ 1000000000000000) ∧ 0 ≤ x.f4 ∧ x.f4 ≤ 1000000000000000
instance (x : SL) : Decidable (Form x) := by unfold Form No; exact inferInstance
def Lt (x y : SL) : Prop := x.f0 < y.f0 ∨ (x.f0 = y.f0 ∧ (x.f1 < y.f1 ∨ (x.f1 = y.f1 ∧ x.f2 < y.f2)))
instance (x y : SL) : Decidable (Lt x y) := by unfold Lt; exact inferInstance
theorem Lt.trans {x y z : SL} (h : Lt x y) (g : Lt y z) : Lt x z := by
  unfold Lt at *
  omega
def qty (a b : Int) : List SL → Int
  | [] => 0
  | x :: xs => (if x.f0 = a ∧ x.f1 = b then x.f3 else 0) + qty a b xs
def cst (a b : Int) : List SL → Int
  | [] => 0
  | x :: xs => (if x.f0 = a ∧ x.f1 = b then x.f4 else 0) + cst a b xs
def Chn : Option SL → List SL → Prop
  | _, [] => True
  | none, x :: xs => Chn (some x) xs
  | some y, x :: xs => Lt y x ∧ Chn (some x) xs
def Right (l : List SL) : Prop := l.length ≤ 120 ∧ (∀ x ∈ l, Form x) ∧ Chn none l ∧ ∀ a b, Amt (qty a b l) ∧ Amt (cst a b l)
theorem Chn.tail {y x : SL} {l : List SL} (h : Lt y x) (g : Chn (some x) l) : Chn (some y) l := by
  cases l with
  | nil => trivial
  | cons z zs => exact ⟨h.trans g.1, g.2⟩
theorem Chn.all {y : SL} : ∀ {l : List SL}, Chn (some y) l → ∀ x ∈ l, Lt y x
  | [], _, x, hx => by cases hx
  | z :: zs, h, x, hx => by
    rcases List.mem_cons.1 hx with rfl | hx
    · exact h.1
    · exact Chn.all (Chn.tail h.1 h.2) x hx
theorem qty_none {a b : Int} : ∀ {l : List SL}, (∀ x ∈ l, ¬(x.f0 = a ∧ x.f1 = b)) → qty a b l = 0 ∧ cst a b l = 0
  | [], _ => ⟨rfl, rfl⟩
  | x :: xs, h => by
    have ih := qty_none (l := xs) fun y hy => h y (List.mem_cons_of_mem _ hy)
    have hx := h x (List.mem_cons_self ..)
    simp only [qty, cst]
    rw [if_neg hx, if_neg hx, ih.1, ih.2]
    exact ⟨rfl, rfl⟩
theorem qty_pos {a b : Int} : ∀ {l : List SL}, (∀ x ∈ l, Form x) → 0 ≤ qty a b l ∧ 0 ≤ cst a b l ∧ qty a b l ≤ l.length * 1000000000000000 ∧ cst a b l ≤ l.length * 1000000000000000
  | [], _ => ⟨Int.le_refl _, Int.le_refl _, by simp [qty], by simp [cst]⟩
  | x :: xs, h => by
    have ih := qty_pos (a := a) (b := b) (l := xs) fun y hy => h y (List.mem_cons_of_mem _ hy)
    have hx := h x (List.mem_cons_self ..)
    unfold Form at hx
    simp only [qty, cst, List.length_cons]
    split <;> omega
theorem cmp_neg (x y : SL) : 0 ≤ impl_LotsOk.cmp x y ↔ ¬Lt x y := by
  unfold impl_LotsOk.cmp Lt
  by_cases h0 : x.f0 < y.f0
  · rw [if_pos h0]; omega
  · rw [if_neg h0]
    by_cases h1 : y.f0 < x.f0
    · rw [if_pos h1]; omega
    · rw [if_neg h1]
      by_cases h2 : x.f1 < y.f1
      · rw [if_pos h2]; omega
      · rw [if_neg h2]
        by_cases h3 : y.f1 < x.f1
        · rw [if_pos h3]; omega
        · rw [if_neg h3]
          by_cases h4 : x.f2 < y.f2
          · rw [if_pos h4]; omega
          · rw [if_neg h4]
            by_cases h5 : y.f2 < x.f2
            · rw [if_pos h5]; omega
            · rw [if_neg h5]; omega
theorem form_iff (x : SL) : impl_LotsOk.form x = true ↔ Form x := by
  unfold impl_LotsOk.form Form No
  rw [decide_eq_true_iff]
def prev (l : List SL) (i : Nat) : Option SL := if 0 < i then some (l.getD (i - 1) z96) else none
theorem chk_go (l : List SL) : ∀ (n i : Nat), l.length - i = n → i ≤ l.length → (impl_LotsOk.chk l n i = true ↔ (∀ x ∈ l.drop i, Form x) ∧ Chn (prev l i) (l.drop i))
  | 0, i, hn, hi => by
    obtain rfl : i = l.length := by omega
    rw [List.drop_length]
    unfold impl_LotsOk.chk
    exact ⟨fun _ => ⟨fun x hx => (by cases hx), trivial⟩, fun _ => rfl⟩
  | n + 1, i, hn, hi => by
    have h1 : i < l.length := by omega
    have ih := chk_go l n (i + 1) (by omega) (by omega)
    have ep : prev l (i + 1) = some (l.getD i z96) := by unfold prev; rw [if_pos (by omega), Nat.add_sub_cancel]
    rw [ep] at ih
    rw [drop_getD z96 l i h1]
    unfold impl_LotsOk.chk
    by_cases h0 : 0 < i
    · have e0 : prev l i = some (l.getD (i - 1) z96) := by unfold prev; rw [if_pos h0]
      rw [e0]
      constructor
      · intro h
        split at h
        · rename_i hg
          have h2 := ih.1 h
          refine ⟨fun x hx => ?_, Classical.byContradiction fun hh => hg.2 ⟨h0, (cmp_neg _ _).2 fun hl => hh ⟨hl, h2.2⟩⟩⟩
          rcases List.mem_cons.1 hx with rfl | hx
          · exact (form_iff _).1 hg.1
          · exact h2.1 x hx
        · cases h
      · rintro ⟨hf, hl, hc⟩
        rw [if_pos ⟨(form_iff _).2 (hf _ (List.mem_cons_self ..)), fun hh => (cmp_neg _ _).1 hh.2 hl⟩]
        exact ih.2 ⟨fun x hx => hf x (List.mem_cons_of_mem _ hx), hc⟩
    · have e0 : prev l i = none := by unfold prev; rw [if_neg h0]
      rw [e0]
      constructor
      · intro h
        split at h
        · rename_i hg
          have h2 := ih.1 h
          refine ⟨fun x hx => ?_, h2.2⟩
          rcases List.mem_cons.1 hx with rfl | hx
          · exact (form_iff _).1 hg.1
          · exact h2.1 x hx
        · cases h
      · rintro ⟨hf, hc⟩
        rw [if_pos ⟨(form_iff _).2 (hf _ (List.mem_cons_self ..)), fun hh => h0 hh.1⟩]
        exact ih.2 ⟨fun x hx => hf x (List.mem_cons_of_mem _ hx), hc⟩
theorem sum_of (a b : Int) : ∀ (l : List SL) (q c : Int), (∀ x ∈ l, Form x) → 0 ≤ q → 0 ≤ c → q + l.length * 1000000000000000 ≤ 9000000000000000000 → c + l.length * 1000000000000000 ≤ 9000000000000000000 →
    impl_LotsOk.sum3 (impl_LotsOk.of l a b) q = q + qty a b l ∧ impl_LotsOk.sum4 (impl_LotsOk.of l a b) c = c + cst a b l
  | [], q, c, _, _, _, _, _ => by simp [impl_LotsOk.of, impl_LotsOk.sum3, impl_LotsOk.sum4, qty, cst]
  | x :: xs, q, c, hf, h0, h1, h2, h3 => by
    have hx := hf x (List.mem_cons_self ..)
    have hxs : ∀ y ∈ xs, Form y := fun y hy => hf y (List.mem_cons_of_mem _ hy)
    unfold Form at hx
    simp only [List.length_cons] at h2 h3
    by_cases hk : x.f0 = a ∧ x.f1 = b
    · have e : impl_LotsOk.of (x :: xs) a b = x :: impl_LotsOk.of xs a b := by
        unfold impl_LotsOk.of
        rw [List.filter_cons_of_pos (by simpa using hk)]
      have ih := sum_of a b xs (q + x.f3) (c + x.f4) hxs (by omega) (by omega) (by omega) (by omega)
      rw [e]
      simp only [impl_LotsOk.sum3, impl_LotsOk.sum4, List.foldl_cons, qty, cst] at ih ⊢
      rw [if_pos hk, if_pos hk, w64_in (q + x.f3) (by omega) (by omega), w64_in (c + x.f4) (by omega) (by omega), ih.1, ih.2]
      omega
    · have e : impl_LotsOk.of (x :: xs) a b = impl_LotsOk.of xs a b := by
        unfold impl_LotsOk.of
        rw [List.filter_cons_of_neg (by simpa using hk)]
      have ih := sum_of a b xs q c hxs (by omega) (by omega) (by omega) (by omega)
      rw [e]
      simp only [qty, cst]
      rw [if_neg hk, if_neg hk, ih.1, ih.2]
      omega
theorem over_iff (l : List SL) (hl : l.length ≤ 120) (hf : ∀ x ∈ l, Form x) (x : SL) : impl_LotsOk.over l x = false ↔ Amt (qty x.f0 x.f1 l) ∧ Amt (cst x.f0 x.f1 l) := by
  have h := sum_of x.f0 x.f1 l 0 0 hf (Int.le_refl _) (Int.le_refl _) (by omega) (by omega)
  unfold impl_LotsOk.over
  rw [h.1, h.2, Int.zero_add, Int.zero_add]
  unfold impl_LotsOk.amt Amt
  by_cases h1 : -1000000000000000 ≤ qty x.f0 x.f1 l ∧ qty x.f0 x.f1 l ≤ 1000000000000000
  · by_cases h2 : -1000000000000000 ≤ cst x.f0 x.f1 l ∧ cst x.f0 x.f1 l ≤ 1000000000000000
    · simp [h1, h2]
    · rw [if_pos (decide_eq_true h1), decide_eq_false h2]
      exact ⟨fun h => Bool.noConfusion h, fun h => absurd h.2 h2⟩
  · rw [if_neg (by rw [decide_eq_false h1]; decide)]
    exact ⟨fun h => Bool.noConfusion h, fun h => absurd h.1 h1⟩
theorem ok_iff (l : List SL) : impl_LotsOk.ok l = true ↔ Right l := by
  unfold impl_LotsOk.ok
  have hc := chk_go l l.length 0 (by omega) (by omega)
  rw [List.drop_zero] at hc
  by_cases h1 : impl_LotsOk.chk l l.length 0 = true
  · rw [if_pos h1]
    have hg := hc.1 h1
    by_cases h2 : (l.length : Int) > 120
    · rw [if_pos h2]
      exact ⟨fun h => Bool.noConfusion h, fun h => absurd h.1 (by omega)⟩
    · rw [if_neg h2]
      have h3 : l.length ≤ 120 := by omega
      constructor
      · intro h
        have h4 : l.any (impl_LotsOk.over l) = false := by simpa using h
        refine ⟨h3, hg.1, hg.2, fun a b => ?_⟩
        by_cases hx : ∃ x ∈ l, x.f0 = a ∧ x.f1 = b
        · obtain ⟨x, hx, rfl, rfl⟩ := hx
          have h5 := List.any_eq_false.1 h4 x hx
          exact (over_iff l h3 hg.1 x).1 (by simpa using h5)
        · have h6 := qty_none (a := a) (b := b) (l := l) fun x hm hk => hx ⟨x, hm, hk⟩
          rw [h6.1, h6.2]
          unfold Amt
          omega
      · intro h
        have h4 : l.any (impl_LotsOk.over l) = false := by
          rw [List.any_eq_false]
          intro x _
          rw [(over_iff l h3 hg.1 x).2 (h.2.2.2 x.f0 x.f1)]
          decide
        rw [h4]
        rfl
  · rw [if_neg h1]
    exact ⟨fun h => Bool.noConfusion h, fun h => absurd (hc.2 ⟨h.2.1, h.2.2.1⟩) h1⟩
theorem some_s (a lo : Int) : spec_l1Some.f a lo = some (decide (lo ≤ a ∧ a ≤ 1000000000000000)) := by
  unfold spec_l1Some.f
  first | (rw [in_s]; rfl) | (rw [in_s])
theorem right_s (x : SL) : spec_l5Right.f x.f0 x.f1 x.f2 x.f3 x.f4 = some (decide (Form x)) := by
  unfold spec_l5Right.f
  simp only [no_s, in_s, some_s, Option.bind_some, decide_eq_true_iff]
  by_cases h0 : No x.f0
  · by_cases h1 : No x.f1
    · by_cases h2 : 1 ≤ x.f2 ∧ x.f2 ≤ 1000000000
      · by_cases h3 : 1 ≤ x.f3 ∧ x.f3 ≤ 1000000000000000
        · by_cases h4 : 0 ≤ x.f4 ∧ x.f4 ≤ 1000000000000000
          · rw [if_pos h0, if_pos h1, if_pos h2, if_pos h3, decide_eq_true h4, decide_eq_true (show Form x from ⟨h0, h1, h2, h3, h4⟩)]
          · rw [if_pos h0, if_pos h1, if_pos h2, if_pos h3, decide_eq_false h4, decide_eq_false (fun g : Form x => h4 g.2.2.2.2)]
        · rw [if_pos h0, if_pos h1, if_pos h2, if_neg h3, decide_eq_false (fun g : Form x => h3 g.2.2.2.1)]
      · rw [if_pos h0, if_pos h1, if_neg h2, decide_eq_false (fun g : Form x => h2 g.2.2.1)]
    · rw [if_pos h0, if_neg h1, decide_eq_false (fun g : Form x => h1 g.2.1)]
  · rw [if_neg h0, decide_eq_false (fun g : Form x => h0 g.1)]
theorem before_s (x y : SL) : spec_l5Before.f x.f0 x.f1 x.f2 x.f3 x.f4 y.f0 y.f1 y.f2 y.f3 y.f4 = some (decide (Lt x y)) := by
  unfold spec_l5Before.f spec_l4Before.f Lt
  by_cases h0 : x.f0 < y.f0
  · simp [h0]
  · by_cases h1 : x.f0 = y.f0
    · by_cases h2 : x.f1 < y.f1
      · simp [h1, h2]
      · by_cases h3 : x.f1 = y.f1 <;> simp [h1, h2, h3]
    · simp [h0, h1]
def base (p : Option SL) (q a b : Int) : Int := match p with
  | none => 0
  | some y => if y.f0 = a ∧ y.f1 = b then q else 0
def Aft (p : Option SL) (x : SL) : Prop := match p with
  | none => True
  | some y => Lt y x
instance (p : Option SL) (x : SL) : Decidable (Aft p x) := by unfold Aft; split <;> exact inferInstance
def go : Option SL → Int → Int → List SL → Bool
  | _, _, _, [] => true
  | p, q, c, x :: xs => if Form x ∧ Aft p x then (if Amt (base p q x.f0 x.f1 + x.f3) ∧ Amt (base p c x.f0 x.f1 + x.f4) then go (some x) (base p q x.f0 x.f1 + x.f3) (base p c x.f0 x.f1 + x.f4) xs else false) else false
theorem chn_cons (p : Option SL) (x : SL) (xs : List SL) : Chn p (x :: xs) ↔ Aft p x ∧ Chn (some x) xs := by
  cases p with
  | none => exact ⟨fun h => ⟨trivial, h⟩, fun h => h.2⟩
  | some y => exact Iff.rfl
theorem base_pos (p : Option SL) (q a b : Int) (h0 : 0 ≤ q) (h1 : q ≤ 1000000000000000) : 0 ≤ base p q a b ∧ base p q a b ≤ 1000000000000000 := by
  cases p with
  | none => simp only [base]; omega
  | some y => simp only [base]; split <;> omega
theorem base_own (x : SL) (q : Int) : base (some x) q x.f0 x.f1 = q := by simp only [base]; rw [if_pos ⟨trivial, trivial⟩]
theorem base_other {x : SL} {q a b : Int} (h : ¬(x.f0 = a ∧ x.f1 = b)) : base (some x) q a b = 0 := by simp only [base]; rw [if_neg h]
theorem gone {y x : SL} {xs : List SL} {a b : Int} (hl : Lt y x) (hc : Chn (some x) xs) (hy : y.f0 = a ∧ y.f1 = b) (hx : ¬(x.f0 = a ∧ x.f1 = b)) : qty a b xs = 0 ∧ cst a b xs = 0 :=
  qty_none fun z hz hk => by
    have h1 := Chn.all hc z hz
    unfold Lt at h1 hl
    omega
theorem go_iff : ∀ (l : List SL) (p : Option SL) (q c : Int), 0 ≤ q → q ≤ 1000000000000000 → 0 ≤ c → c ≤ 1000000000000000 →
    (go p q c l = true ↔ (∀ x ∈ l, Form x) ∧ Chn p l ∧ ∀ a b, Amt (base p q a b + qty a b l) ∧ Amt (base p c a b + cst a b l))
  | [], p, q, c, q0, q1, c0, c1 => by
    refine ⟨fun _ => ⟨fun x hx => (by cases hx), by cases p <;> trivial, fun a b => ?_⟩, fun _ => by cases p <;> rfl⟩
    have h1 := base_pos p q a b q0 q1
    have h2 := base_pos p c a b c0 c1
    simp only [qty, cst]
    unfold Amt
    omega
  | x :: xs, p, q, c, q0, q1, c0, c1 => by
    have hb1 := base_pos p q x.f0 x.f1 q0 q1
    have hb2 := base_pos p c x.f0 x.f1 c0 c1
    rw [go, chn_cons]
    by_cases h1 : Form x ∧ Aft p x
    · rw [if_pos h1]
      have hfx := h1.1
      unfold Form at hfx
      by_cases h2 : Amt (base p q x.f0 x.f1 + x.f3) ∧ Amt (base p c x.f0 x.f1 + x.f4)
      · rw [if_pos h2]
        have ih := go_iff xs (some x) (base p q x.f0 x.f1 + x.f3) (base p c x.f0 x.f1 + x.f4) (by omega) h2.1.2 (by omega) h2.2.2
        have key : Chn (some x) xs → ∀ a b, ((Amt (base (some x) (base p q x.f0 x.f1 + x.f3) a b + qty a b xs) ∧ Amt (base (some x) (base p c x.f0 x.f1 + x.f4) a b + cst a b xs)) ↔ (Amt (base p q a b + qty a b (x :: xs)) ∧ Amt (base p c a b + cst a b (x :: xs)))) := by
          intro hc a b
          by_cases hk : x.f0 = a ∧ x.f1 = b
          · obtain ⟨rfl, rfl⟩ := hk
            rw [base_own, base_own]
            simp only [qty, cst]
            rw [if_pos ⟨trivial, trivial⟩, if_pos ⟨trivial, trivial⟩, Int.add_assoc, Int.add_assoc]
          · rw [base_other hk, base_other hk]
            simp only [qty, cst]
            rw [if_neg hk, if_neg hk]
            simp only [Int.zero_add]
            cases p with
            | none => simp only [base, Int.zero_add]
            | some y =>
              by_cases hy : y.f0 = a ∧ y.f1 = b
              · have hg := gone h1.2 hc hy hk
                simp only [base]
                rw [if_pos hy, if_pos hy, hg.1, hg.2]
                unfold Amt
                omega
              · rw [base_other hy, base_other hy]
                simp only [Int.zero_add]
        constructor
        · intro h
          obtain ⟨f1, f2, f3⟩ := ih.1 h
          refine ⟨fun z hz => ?_, ⟨h1.2, f2⟩, fun a b => (key f2 a b).1 (f3 a b)⟩
          rcases List.mem_cons.1 hz with rfl | hz
          · exact h1.1
          · exact f1 z hz
        · rintro ⟨f1, ⟨_, f2⟩, f3⟩
          exact ih.2 ⟨fun z hz => f1 z (List.mem_cons_of_mem _ hz), f2, fun a b => (key f2 a b).2 (f3 a b)⟩
      · rw [if_neg h2]
        refine ⟨fun h => Bool.noConfusion h, fun h => absurd ?_ h2⟩
        obtain ⟨f1, ⟨_, f2⟩, f3⟩ := h
        have h3 := f3 x.f0 x.f1
        have h4 := qty_pos (a := x.f0) (b := x.f1) (l := xs) fun z hz => f1 z (List.mem_cons_of_mem _ hz)
        simp only [qty, cst] at h3
        rw [if_pos ⟨trivial, trivial⟩, if_pos ⟨trivial, trivial⟩] at h3
        unfold Amt at h3 ⊢
        omega
    · rw [if_neg h1]
      exact ⟨fun h => Bool.noConfusion h, fun h => absurd ⟨h.1 x (List.mem_cons_self ..), h.2.1.1⟩ h1⟩
theorem lotsOk_s (l : List SL) : Ev (fun k => spec_LotsOk.f k l) (impl_LotsOk.ok l) := by
  unfold spec_LotsOk.f
  have hok : impl_LotsOk.ok l = (if (l.length : Int) > 120 then false else go none 0 0 l) := by
    rw [Bool.eq_iff_iff, ok_iff]
    by_cases h : (l.length : Int) > 120
    · rw [if_pos h]
      exact ⟨fun g => absurd g.1 (by omega), fun g => Bool.noConfusion g⟩
    · rw [if_neg h, go_iff l none 0 0 (by omega) (by omega) (by omega) (by omega)]
      unfold Right
      simp only [base, Int.zero_add]
      exact ⟨fun g => g.2, fun g => ⟨by omega, g⟩⟩
  rw [hok]
  by_cases hn : (l.length : Int) > 120
  · rw [if_pos hn]
    exact Ev_all_k fun k => by rw [if_pos hn]
  · rw [if_neg hn]
    have h := Ev_goes' (fun k (s : Int × Int) i => spec_LotsOk.l0 k l s.1 s.2 i) l.length (fun i s => go (prev l i) s.1 s.2 (l.drop i)) (fun i s => 0 ≤ s.1 ∧ s.1 ≤ 1000000000000000 ∧ 0 ≤ s.2 ∧ s.2 ≤ 1000000000000000)
      (fun s hs => Ev_one fun k => by
        simp only [spec_LotsOk.l0]
        rw [if_neg (by omega), List.drop_length]
        cases prev l l.length <;> rfl)
      (fun i s hi hs => by
        obtain ⟨q, c⟩ := s
        obtain ⟨q0, q1, c0, c1⟩ := hs
        simp only at q0 q1 c0 c1
        show (Ev (fun k => spec_LotsOk.l0 k l q c (i : Int)) (go (prev l i) q c (l.drop i))) ∨ _
        have ep : prev l (i + 1) = some (l.getD i z96) := by unfold prev; rw [if_pos (by omega), Nat.add_sub_cancel]
        rw [drop_getD z96 l i hi]
        show (Ev (fun k => spec_LotsOk.l0 k l q c (i : Int)) (go (prev l i) q c (l.getD i z96 :: l.drop (i + 1)))) ∨ ∃ s' : Int × Int, _ ∧ go (prev l (i + 1)) s'.1 s'.2 (l.drop (i + 1)) = go (prev l i) q c (l.getD i z96 :: l.drop (i + 1)) ∧ _
        rw [ep]
        generalize hx : l.getD i z96 = x
        rw [go]
        have hb1 := base_pos (prev l i) q x.f0 x.f1 q0 q1
        have hb2 := base_pos (prev l i) c x.f0 x.f1 c0 c1
        -- the round's last part
        have e3 : Form x → ∀ (a b : Int), 0 ≤ a → a ≤ 1000000000000000 → 0 ≤ b → b ≤ 1000000000000000 → ∀ k, spec_LotsOk.j3 (k + 1) l a b (i : Int) x.f0 x.f1 x.f2 x.f3 x.f4 = if Amt (a + x.f3) ∧ Amt (b + x.f4) then spec_LotsOk.l0 k l (a + x.f3) (b + x.f4) ((i + 1 : Nat) : Int) else some false := by
          intro hf a b a0 a1 b0 b1 k
          unfold Form at hf
          simp only [spec_LotsOk.j3]
          rw [w64_in (a + x.f3) (by omega) (by omega), w64_in (b + x.f4) (by omega) (by omega), w_succ hi (by omega), amt_s, amt_s, Option.bind_some, Option.bind_some]
          by_cases h1 : Amt (a + x.f3)
          · by_cases h2 : Amt (b + x.f4)
            · rw [if_pos (decide_eq_true h1), if_pos (decide_eq_true h2), if_pos ⟨h1, h2⟩]
            · rw [if_pos (decide_eq_true h1), if_neg (by rw [decide_eq_false h2]; decide), if_neg fun g => h2 g.2]
          · rw [if_neg (by rw [decide_eq_false h1]; decide), if_neg fun g => h1 g.1]
        have e2 : ∀ k (t : Bool), spec_LotsOk.j2 (k + 1) l q c (i : Int) t x.f0 x.f1 x.f2 x.f3 x.f4 = if t = true then spec_LotsOk.j3 k l 0 0 (i : Int) x.f0 x.f1 x.f2 x.f3 x.f4 else spec_LotsOk.j3 k l q c (i : Int) x.f0 x.f1 x.f2 x.f3 x.f4 := fun k t => by simp only [spec_LotsOk.j2]
        -- what the round comes to, once the pair's own amounts are known
        have fin : ∀ a b, Form x → a = base (prev l i) q x.f0 x.f1 → b = base (prev l i) c x.f0 x.f1 → Aft (prev l i) x → (∀ r, Ev (fun k => spec_LotsOk.j3 k l a b (i : Int) x.f0 x.f1 x.f2 x.f3 x.f4) r → Ev (fun k => spec_LotsOk.l0 k l q c (i : Int)) r) →
            (Ev (fun k => spec_LotsOk.l0 k l q c (i : Int)) (if Form x ∧ Aft (prev l i) x then (if Amt (base (prev l i) q x.f0 x.f1 + x.f3) ∧ Amt (base (prev l i) c x.f0 x.f1 + x.f4) then go (some x) (base (prev l i) q x.f0 x.f1 + x.f3) (base (prev l i) c x.f0 x.f1 + x.f4) (l.drop (i + 1)) else false) else false)) ∨
            ∃ s' : Int × Int, (0 ≤ s'.1 ∧ s'.1 ≤ 1000000000000000 ∧ 0 ≤ s'.2 ∧ s'.2 ≤ 1000000000000000) ∧ go (some x) s'.1 s'.2 (l.drop (i + 1)) = (if Form x ∧ Aft (prev l i) x then (if Amt (base (prev l i) q x.f0 x.f1 + x.f3) ∧ Amt (base (prev l i) c x.f0 x.f1 + x.f4) then go (some x) (base (prev l i) q x.f0 x.f1 + x.f3) (base (prev l i) c x.f0 x.f1 + x.f4) (l.drop (i + 1)) else false) else false) ∧
              ∀ r, Ev (fun k => spec_LotsOk.l0 k l s'.1 s'.2 ((i + 1 : Nat) : Int)) r → Ev (fun k => spec_LotsOk.l0 k l q c (i : Int)) r := by
          rintro a b hf rfl rfl ha step
          rw [if_pos ⟨hf, ha⟩]
          have hf' := hf
          unfold Form at hf'
          by_cases hm : Amt (base (prev l i) q x.f0 x.f1 + x.f3) ∧ Amt (base (prev l i) c x.f0 x.f1 + x.f4)
          · rw [if_pos hm]
            refine .inr ⟨(base (prev l i) q x.f0 x.f1 + x.f3, base (prev l i) c x.f0 x.f1 + x.f4), ⟨by show 0 ≤ _ + x.f3; omega, hm.1.2, by show 0 ≤ _ + x.f4; omega, hm.2.2⟩, rfl, fun r hr => ?_⟩
            refine step r (Ev.step (fun k => ?_) hr)
            show spec_LotsOk.j3 (k + 1) l _ _ (i : Int) x.f0 x.f1 x.f2 x.f3 x.f4 = _
            rw [e3 hf _ _ hb1.1 hb1.2 hb2.1 hb2.2 k, if_pos hm]
          · rw [if_neg hm]
            refine .inl (step false (Ev_one fun k => ?_))
            show spec_LotsOk.j3 (k + 1) l _ _ (i : Int) x.f0 x.f1 x.f2 x.f3 x.f4 = _
            rw [e3 hf _ _ hb1.1 hb1.2 hb2.1 hb2.2 k, if_neg hm]
        by_cases hf : Form x
        · by_cases h0 : 0 < i
          · have e0 : prev l i = some (l.getD (i - 1) z96) := by unfold prev; rw [if_pos h0]
            generalize hy : l.getD (i - 1) z96 = y at e0
            have eA : ∀ k, spec_LotsOk.l0 (k + 1) l q c (i : Int) = spec_LotsOk.j1 k l q c (i : Int) (!decide (Lt y x)) x.f0 x.f1 x.f2 x.f3 x.f4 := by
              intro k
              simp only [spec_LotsOk.l0]
              rw [if_pos (by omega), if_pos (by omega), w_pred hi h0 (by omega)]
              simp only [rdL, hx, hy, right_s, before_s, Option.bind_some, decide_eq_true_iff]
              rw [if_pos hf, if_pos (by omega), if_pos (by omega), if_pos (by omega)]
            by_cases hl : Lt y x
            · have ha : Aft (prev l i) x := by rw [e0]; exact hl
              have eB : ∀ k, spec_LotsOk.j1 (k + 1) l q c (i : Int) false x.f0 x.f1 x.f2 x.f3 x.f4 = spec_LotsOk.j2 k l q c (i : Int) (!decide (y.f0 = x.f0 ∧ y.f1 = x.f1)) x.f0 x.f1 x.f2 x.f3 x.f4 := by
                intro k
                simp only [spec_LotsOk.j1]
                rw [if_neg (by decide), if_neg (by omega), w_pred hi h0 (by omega), if_pos (by omega), if_pos (by omega)]
                simp only [rdL, hy]
                by_cases k1 : x.f0 = y.f0
                · rw [if_pos k1]
                  by_cases k2 : x.f1 = y.f1
                  · rw [decide_eq_true (show y.f0 = x.f0 ∧ y.f1 = x.f1 from ⟨k1.symm, k2.symm⟩), k2]
                    simp
                  · rw [decide_eq_false (show ¬(y.f0 = x.f0 ∧ y.f1 = x.f1) from fun g => k2 g.2.symm), show (x.f1 != y.f1) = true by simpa using k2]
                    rfl
                · rw [if_neg k1, decide_eq_false (show ¬(y.f0 = x.f0 ∧ y.f1 = x.f1) from fun g => k1 g.1.symm)]
                  rfl
              by_cases hk : y.f0 = x.f0 ∧ y.f1 = x.f1
              · refine fin q c hf (by rw [e0]; simp only [base]; rw [if_pos hk]) (by rw [e0]; simp only [base]; rw [if_pos hk]) ha fun r hr => ?_
                refine Ev.step (fun k => by rw [eA k, decide_eq_true hl]) (Ev.step (fun k => by show spec_LotsOk.j1 (k + 1) l q c (i : Int) false x.f0 x.f1 x.f2 x.f3 x.f4 = _; rw [eB k, decide_eq_true hk]) (Ev.step (fun k => by show spec_LotsOk.j2 (k + 1) l q c (i : Int) false x.f0 x.f1 x.f2 x.f3 x.f4 = _; rw [e2 k, if_neg (by decide)]) hr))
              · refine fin 0 0 hf (by rw [e0]; simp only [base]; rw [if_neg hk]) (by rw [e0]; simp only [base]; rw [if_neg hk]) ha fun r hr => ?_
                refine Ev.step (fun k => by rw [eA k, decide_eq_true hl]) (Ev.step (fun k => by show spec_LotsOk.j1 (k + 1) l q c (i : Int) false x.f0 x.f1 x.f2 x.f3 x.f4 = _; rw [eB k, decide_eq_false hk]) (Ev.step (fun k => by show spec_LotsOk.j2 (k + 1) l q c (i : Int) true x.f0 x.f1 x.f2 x.f3 x.f4 = _; rw [e2 k, if_pos rfl]) hr))
            · have ha : ¬(Form x ∧ Aft (prev l i) x) := by rw [e0]; exact fun g => hl g.2
              rw [if_neg ha]
              refine .inl (Ev.step (fun k => by rw [eA k, decide_eq_false hl]) (Ev_one fun k => ?_))
              show spec_LotsOk.j1 (k + 1) l q c (i : Int) true x.f0 x.f1 x.f2 x.f3 x.f4 = _
              simp only [spec_LotsOk.j1]
              rw [if_pos trivial]
          · have e0 : prev l i = none := by unfold prev; rw [if_neg h0]
            have ha : Aft (prev l i) x := by rw [e0]; exact trivial
            have hz : (i : Int) = 0 := by omega
            refine fin 0 0 hf (by rw [e0]; rfl) (by rw [e0]; rfl) ha fun r hr => ?_
            refine Ev.step (f := fun k => spec_LotsOk.j1 k l q c (i : Int) false x.f0 x.f1 x.f2 x.f3 x.f4) (fun k => ?_) (Ev.step (f := fun k => spec_LotsOk.j2 k l q c (i : Int) true x.f0 x.f1 x.f2 x.f3 x.f4) (fun k => ?_) (Ev.step (fun k => by show spec_LotsOk.j2 (k + 1) l q c (i : Int) true x.f0 x.f1 x.f2 x.f3 x.f4 = _; rw [e2 k, if_pos rfl]) hr))
            · show spec_LotsOk.l0 (k + 1) l q c (i : Int) = _
              simp only [spec_LotsOk.l0]
              rw [if_pos (by omega), if_pos (by omega)]
              simp only [rdL, hx, right_s, Option.bind_some, decide_eq_true_iff]
              rw [if_pos hf, if_neg (by omega)]
            · show spec_LotsOk.j1 (k + 1) l q c (i : Int) false x.f0 x.f1 x.f2 x.f3 x.f4 = _
              simp only [spec_LotsOk.j1]
              rw [if_neg (by decide), if_pos hz]
        · rw [if_neg (fun g => hf g.1)]
          refine .inl (Ev.step (f := fun k => spec_LotsOk.j1 k l q c (i : Int) true x.f0 x.f1 x.f2 x.f3 x.f4) (fun k => ?_) (Ev_one fun k => ?_))
          · show spec_LotsOk.l0 (k + 1) l q c (i : Int) = _
            simp only [spec_LotsOk.l0]
            rw [if_pos (by omega), if_pos (by omega)]
            simp only [rdL, hx, right_s, Option.bind_some, decide_eq_true_iff]
            rw [if_neg hf]
          · show spec_LotsOk.j1 (k + 1) l q c (i : Int) true x.f0 x.f1 x.f2 x.f3 x.f4 = _
            simp only [spec_LotsOk.j1]
            rw [if_pos trivial]) l.length 0 (0, 0) (by omega) (by omega) ⟨by decide, by decide, by decide, by decide⟩
    refine Ev.congr (fun k => by rw [if_neg hn]; rfl) h
end Go.Proofs.Ytmfgajbkcnlkcaa.E1
namespace Go.Proofs.Ytmfgajbkcnlkcaa.E2
open Go Go.RowKit Go.Proofs.Ytmfgajbkcnlkcaa.P Go.Proofs.YtmfgajbkcnlkcaaW.PrintWords Go.Proofs.YtmfgajbkcnlkcaaW.PrintLast Go.Proofs.Ytmfgajbkcnlkcaa.EV Go.Proofs.Ytmfgajbkcnlkcaa.I1 Go.Proofs.Ytmfgajbkcnlkcaa.N1 Go.Proofs.Ytmfgajbkcnlkcaa.E1
def Own (a b : Int) (x : SL) : Bool := decide (x.f0 = a ∧ x.f1 = b)
def ofL (a b : Int) (l : List SL) : List SL := l.filter (Own a b)
def outL (a b : Int) (l : List SL) : List SL := l.filter fun x => !Own a b x
theorem of_len (a b : Int) (l : List SL) : (ofL a b l).length ≤ l.length := List.length_filter_le _ _
theorem split_s (l : List SL) (a b : Int) (hl : l.length ≤ 1048577) : Ev (fun k => spec_l5Split.f k l a b) (ofL a b l, outL a b l) := by
  unfold spec_l5Split.f
  have h := Ev_goes (fun k (s : List SL × List SL) i => spec_l5Split.l0 k l a b s.1 s.2 i) l.length (fun i s => (s.1 ++ ofL a b (l.drop i), s.2 ++ outL a b (l.drop i))) (fun i s => s.1.length ≤ i ∧ s.2.length ≤ i)
    (fun s _ => Ev_one fun k => by
      simp only [spec_l5Split.l0]
      rw [if_neg (by omega), List.drop_length]
      simp [ofL, outL])
    (fun i s hi hs => by
      obtain ⟨p, q⟩ := s
      simp only at hs
      have e : l.drop i = l.getD i z96 :: l.drop (i + 1) := drop_getD z96 l i hi
      by_cases h1 : (l.getD i z96).f0 = a ∧ (l.getD i z96).f1 = b
      · refine .inr ⟨(p ++ [l.getD i z96], q), ⟨by show (p ++ [_]).length ≤ i + 1; rw [List.length_append, List.length_singleton]; omega, Nat.le_succ_of_le hs.2⟩, ?_, fun k => ?_⟩
        · have hO : Own a b (l.getD i z96) = true := decide_eq_true h1
          rw [e]
          simp only [ofL, outL]
          rw [List.filter_cons_of_pos hO, List.filter_cons_of_neg (by rw [hO]; decide), List.append_assoc]
          rfl
        · show spec_l5Split.l0 (k + 1) l a b p q (i : Int) = _
          simp only [spec_l5Split.l0]
          rw [if_pos (by omega), if_pos (by omega), w_succ hi (by omega)]
          simp only [rdL]
          rw [if_pos h1.1, if_pos h1.2, if_pos (by omega)]
      · have step : ∀ k, spec_l5Split.l0 (k + 1) l a b p q (i : Int) = spec_l5Split.l0 k l a b p (q ++ [l.getD i z96]) ((i + 1 : Nat) : Int) := fun k => by
          simp only [spec_l5Split.l0]
          rw [if_pos (by omega), if_pos (by omega), w_succ hi (by omega)]
          simp only [rdL]
          by_cases h2 : (l.getD i z96).f0 = a
          · rw [if_pos h2, if_neg fun h3 => h1 ⟨h2, h3⟩, if_pos (by omega)]
          · rw [if_neg h2, if_pos (by omega)]
        refine .inr ⟨(p, q ++ [l.getD i z96]), ⟨Nat.le_succ_of_le hs.1, by show (q ++ [_]).length ≤ i + 1; rw [List.length_append, List.length_singleton]; omega⟩, ?_, step⟩
        have hO : Own a b (l.getD i z96) = false := decide_eq_false h1
        rw [e]
        simp only [ofL, outL]
        rw [List.filter_cons_of_neg (by rw [hO]; decide), List.filter_cons_of_pos (by rw [hO]; decide), List.append_assoc]
        rfl) l.length 0 ([], []) (by omega) (by omega) ⟨Nat.le_refl _, Nat.le_refl _⟩
  exact h
theorem qty_s (l : List SL) (hl : l.length ≤ 1048577) : Ev (fun k => spec_l5Qty.f k l) (impl_LotsOk.sum3 l 0) := by
  unfold spec_l5Qty.f
  have h := Ev_goes (fun k (s : Int) i => spec_l5Qty.l0 k l s i) l.length (fun i s => impl_LotsOk.sum3 (l.drop i) s) (fun _ _ => True)
    (fun s _ => Ev_one fun k => by
      simp only [spec_l5Qty.l0]
      rw [if_neg (by omega), List.drop_length]
      rfl)
    (fun i s hi _ => .inr ⟨wrap64 (s + (l.getD i z96).f3), trivial, by rw [drop_getD z96 l i hi]; rfl, fun k => by
      show spec_l5Qty.l0 (k + 1) l s (i : Int) = _
      simp only [spec_l5Qty.l0]
      rw [if_pos (by omega), if_pos (by omega), w_succ hi (by omega), rdL]⟩) l.length 0 0 (by omega) (by omega) trivial
  exact h
theorem sums_i (l : List SL) (hl : l.length ≤ 1048577) : Ev (fun k => impl_sumLots.f k l) (impl_LotsOk.sum3 l 0, impl_LotsOk.sum4 l 0) := by
  unfold impl_sumLots.f
  have h := Ev_goes (fun k (s : Int × Int) i => impl_sumLots.l0 k s.1 s.2 l (l.length : Int) i) l.length (fun i s => (impl_LotsOk.sum3 (l.drop i) s.1, impl_LotsOk.sum4 (l.drop i) s.2)) (fun _ _ => True)
    (fun s _ => Ev_one fun k => by
      simp only [impl_sumLots.l0]
      rw [if_neg (by omega), List.drop_length]
      rfl)
    (fun i s hi _ => .inr ⟨(wrap64 (s.1 + (l.getD i z96).f3), wrap64 (s.2 + (l.getD i z96).f4)), trivial, by rw [drop_getD z96 l i hi]; rfl, fun k => by
      show impl_sumLots.l0 (k + 1) s.1 s.2 l (l.length : Int) (i : Int) = _
      simp only [impl_sumLots.l0]
      rw [if_pos (by omega), if_pos (by omega), if_pos (by omega), w_succ hi (by omega), rdL]⟩) l.length 0 (0, 0) (by omega) (by omega) trivial
  exact h
end Go.Proofs.Ytmfgajbkcnlkcaa.E2
namespace Go.Proofs.Ytmfgajbkcnlkcaa.F1
open Go Go.RowKit Go.Proofs.Ytmfgajbkcnlkcaa.P Go.Proofs.YtmfgajbkcnlkcaaW.PrintWords Go.Proofs.YtmfgajbkcnlkcaaW.PrintLast Go.Proofs.Ytmfgajbkcnlkcaa.EV Go.Proofs.Ytmfgajbkcnlkcaa.I1
abbrev ST := S50
def No (a : Int) : Prop := 1 ≤ a ∧ a ≤ 1000
instance (a : Int) : Decidable (No a) := by unfold No; exact inferInstance
theorem no_s (a : Int) : spec_l3No.f a = some (decide (No a)) := by unfold spec_l3No.f; rw [in_s]; rfl
theorem no_i (a : Int) : impl_isNo.f a = some (decide (No a)) := by unfold impl_isNo.f; rw [in_i]; rfl
theorem rdT (l : List ST) (i : Nat) : rd_T50 l (i : Int) = l.getD i z50 := by unfold rd_T50; rw [Int.toNat_natCast]
def Amt1 (lo x : Int) : Prop := lo ≤ x ∧ x ≤ 1000000000000000
def Sta (x : Int) : Prop := 1 ≤ x ∧ x ≤ 3
instance (a lo : Int) : Decidable (Amt1 lo a) := by unfold Amt1; exact inferInstance
instance (a : Int) : Decidable (Sta a) := by unfold Sta; exact inferInstance
def Good (l : List ST) (i : Nat) : Prop :=
  No (l.getD i z50).f0 ∧ No (l.getD i z50).f1 ∧ No (l.getD i z50).f2 ∧ No (l.getD i z50).f3 ∧ No (l.getD i z50).f5 ∧ (l.getD i z50).f1 ≠ (l.getD i z50).f2 ∧
    Amt1 1 (l.getD i z50).f4 ∧ Amt1 0 (l.getD i z50).f6 ∧ Sta (l.getD i z50).f7 ∧ (0 < i → (l.getD (i - 1) z50).f0 < (l.getD i z50).f0)
theorem some_s (a lo : Int) : spec_l1Some.f a lo = some (decide (lo ≤ a ∧ a ≤ 1000000000000000)) := by
  unfold spec_l1Some.f
  first | (rw [in_s]; rfl) | (rw [in_s])
theorem amt_in (a lo : Int) : impl_in.f a lo 1000000000000000 = some (decide (Amt1 lo a)) := by rw [in_i]; rfl
theorem sta_in (a : Int) : impl_in.f a 1 3 = some (decide (Sta a)) := by rw [in_i]; rfl
theorem trades_s (l : List ST) (hl : l.length ≤ 9223372036854775807) : ∃ r, Ev (fun k => spec_TradesOk.f k l) r ∧ (r = true ↔ l.length ≤ 30 ∧ ∀ i, i < l.length → Good l i) := by
  unfold spec_TradesOk.f
  by_cases hn : (l.length : Int) > 30
  · exact ⟨false, Ev_all_k fun k => if_pos hn, ⟨fun h => Bool.noConfusion h, fun h => absurd h.1 (by omega)⟩⟩
  · obtain ⟨r, hr, hiff⟩ := Ev_asks (fun k i => spec_TradesOk.l0 k l i) l.length (Good l) true
      (Ev_one fun k => by simp only [spec_TradesOk.l0]; rw [if_neg (by omega)])
      (fun i hi => by
        obtain ⟨x, hx⟩ : ∃ x, l.getD i z50 = x := ⟨_, rfl⟩
        have e : ∀ k, spec_TradesOk.l0 (k + 1) l (i : Int) = if No x.f0 then (if No x.f1 then (if No x.f2 then (if No x.f3 then (if No x.f5 then (if x.f1 = x.f2 then some false else (if Amt1 1 x.f4 then (if Amt1 0 x.f6 then (if Sta x.f7 then (if (i : Int) > 0 then (if 0 ≤ wrap64 ((i : Int) - 1) then (if wrap64 ((i : Int) - 1) < (l.length : Int) then (if (rd_T50 l (wrap64 ((i : Int) - 1))).f0 ≥ x.f0 then some false else spec_TradesOk.l0 k l ((i + 1 : Nat) : Int)) else none) else none) else spec_TradesOk.l0 k l ((i + 1 : Nat) : Int)) else some false) else some false) else some false)) else some false) else some false) else some false) else some false) else some false := fun k => by
          simp only [spec_TradesOk.l0]
          rw [if_pos (by omega), if_pos (by omega), w_succ hi (by omega)]
          simp only [rdT, hx, no_s, some_s, in_s, Option.bind_some, decide_eq_true_iff]
          rfl
        unfold Good
        rw [hx]
        by_cases h0 : No x.f0
        · by_cases h1 : No x.f1
          · by_cases h2 : No x.f2
            · by_cases h3 : No x.f3
              · by_cases h5 : No x.f5
                · by_cases hne : x.f1 = x.f2
                  · exact .inr ⟨fun g => g.2.2.2.2.2.1 hne, fun k => by rw [e, if_pos h0, if_pos h1, if_pos h2, if_pos h3, if_pos h5, if_pos hne]⟩
                  · by_cases h4 : Amt1 1 x.f4
                    · by_cases h6 : Amt1 0 x.f6
                      · by_cases h7 : Sta x.f7
                        · by_cases hi0 : 0 < i
                          · by_cases hlt : (l.getD (i - 1) z50).f0 < x.f0
                            · refine .inl ⟨⟨h0, h1, h2, h3, h5, hne, h4, h6, h7, fun _ => hlt⟩, fun k => ?_⟩
                              show spec_TradesOk.l0 (k + 1) l (i : Int) = _
                              rw [e, if_pos h0, if_pos h1, if_pos h2, if_pos h3, if_pos h5, if_neg hne, if_pos h4, if_pos h6, if_pos h7, if_pos (by omega), w_pred hi hi0 (by omega), if_pos (by omega), if_pos (by omega), rdT, if_neg (by omega)]
                            · refine .inr ⟨fun g => hlt (g.2.2.2.2.2.2.2.2.2 hi0), fun k => ?_⟩
                              rw [e, if_pos h0, if_pos h1, if_pos h2, if_pos h3, if_pos h5, if_neg hne, if_pos h4, if_pos h6, if_pos h7, if_pos (by omega), w_pred hi hi0 (by omega), if_pos (by omega), if_pos (by omega), rdT, if_pos (by omega)]
                          · refine .inl ⟨⟨h0, h1, h2, h3, h5, hne, h4, h6, h7, fun g => absurd g hi0⟩, fun k => ?_⟩
                            show spec_TradesOk.l0 (k + 1) l (i : Int) = _
                            rw [e, if_pos h0, if_pos h1, if_pos h2, if_pos h3, if_pos h5, if_neg hne, if_pos h4, if_pos h6, if_pos h7, if_neg (by omega)]
                        · exact .inr ⟨fun g => h7 g.2.2.2.2.2.2.2.2.1, fun k => by rw [e, if_pos h0, if_pos h1, if_pos h2, if_pos h3, if_pos h5, if_neg hne, if_pos h4, if_pos h6, if_neg h7]⟩
                      · exact .inr ⟨fun g => h6 g.2.2.2.2.2.2.2.1, fun k => by rw [e, if_pos h0, if_pos h1, if_pos h2, if_pos h3, if_pos h5, if_neg hne, if_pos h4, if_neg h6]⟩
                    · exact .inr ⟨fun g => h4 g.2.2.2.2.2.2.1, fun k => by rw [e, if_pos h0, if_pos h1, if_pos h2, if_pos h3, if_pos h5, if_neg hne, if_neg h4]⟩
                · exact .inr ⟨fun g => h5 g.2.2.2.2.1, fun k => by rw [e, if_pos h0, if_pos h1, if_pos h2, if_pos h3, if_neg h5]⟩
              · exact .inr ⟨fun g => h3 g.2.2.2.1, fun k => by rw [e, if_pos h0, if_pos h1, if_pos h2, if_neg h3]⟩
            · exact .inr ⟨fun g => h2 g.2.2.1, fun k => by rw [e, if_pos h0, if_pos h1, if_neg h2]⟩
          · exact .inr ⟨fun g => h1 g.2.1, fun k => by rw [e, if_pos h0, if_neg h1]⟩
        · exact .inr ⟨fun g => h0 g.1, fun k => by rw [e, if_neg h0]⟩) l.length 0 (by omega) (by omega)
    refine ⟨r, Ev.congr (fun k => if_neg hn) hr, ?_⟩
    rw [hiff]
    exact ⟨fun h => ⟨by omega, fun i hi => h.1 i (Nat.zero_le _) hi⟩, fun h => ⟨fun i _ hi => h.2 i hi, rfl⟩⟩
theorem trades_i (l : List ST) (hl : l.length ≤ 9223372036854775807) : ∃ r, Ev (fun k => impl_TradesOk.f k l) r ∧ (r = true ↔ l.length ≤ 30 ∧ ∀ i, i < l.length → Good l i) := by
  unfold impl_TradesOk.f
  obtain ⟨r, hr, hiff⟩ := Ev_asks' (fun k i => impl_TradesOk.l0 k l l (l.length : Int) i) l.length (Good l) (decide ((l.length : Int) ≤ 30))
    (Ev_one fun k => by simp only [impl_TradesOk.l0]; rw [if_neg (by omega)])
    (fun i hi => by
      obtain ⟨x, hx⟩ : ∃ x, l.getD i z50 = x := ⟨_, rfl⟩
      have e : ∀ k, impl_TradesOk.l0 (k + 1) l l (l.length : Int) (i : Int) = impl_TradesOk.j1 k l (i : Int) l (l.length : Int) (i : Int) (!decide (No x.f0 ∧ No x.f1 ∧ No x.f2 ∧ No x.f3 ∧ No x.f5 ∧ x.f1 ≠ x.f2)) x.f0 x.f1 x.f2 x.f3 x.f4 x.f5 x.f6 x.f7 := fun k => by
        simp only [impl_TradesOk.l0]
        rw [if_pos (by omega), if_pos (by omega), if_pos (by omega)]
        simp only [rdT, hx, no_i, Option.bind_some, decide_eq_true_iff]
        by_cases h0 : No x.f0
        · by_cases h1 : No x.f1
          · by_cases h2 : No x.f2
            · by_cases h3 : No x.f3
              · by_cases h5 : No x.f5
                · by_cases hne : x.f1 = x.f2
                  · rw [if_pos h0, if_pos h1, if_pos h2, if_pos h3, if_pos h5, decide_eq_false (fun g : No x.f0 ∧ No x.f1 ∧ No x.f2 ∧ No x.f3 ∧ No x.f5 ∧ x.f1 ≠ x.f2 => g.2.2.2.2.2 hne), beq_iff_eq.2 hne]
                    rfl
                  · rw [if_pos h0, if_pos h1, if_pos h2, if_pos h3, if_pos h5, decide_eq_true (show No x.f0 ∧ No x.f1 ∧ No x.f2 ∧ No x.f3 ∧ No x.f5 ∧ x.f1 ≠ x.f2 from ⟨h0, h1, h2, h3, h5, hne⟩), beq_eq_false_iff_ne.2 hne]
                    rfl
                · rw [if_pos h0, if_pos h1, if_pos h2, if_pos h3, if_neg h5, decide_eq_false (fun g : No x.f0 ∧ No x.f1 ∧ No x.f2 ∧ No x.f3 ∧ No x.f5 ∧ x.f1 ≠ x.f2 => h5 g.2.2.2.2.1)]
                  rfl
              · rw [if_pos h0, if_pos h1, if_pos h2, if_neg h3, decide_eq_false (fun g : No x.f0 ∧ No x.f1 ∧ No x.f2 ∧ No x.f3 ∧ No x.f5 ∧ x.f1 ≠ x.f2 => h3 g.2.2.2.1)]
                rfl
            · rw [if_pos h0, if_pos h1, if_neg h2, decide_eq_false (fun g : No x.f0 ∧ No x.f1 ∧ No x.f2 ∧ No x.f3 ∧ No x.f5 ∧ x.f1 ≠ x.f2 => h2 g.2.2.1)]
              rfl
          · rw [if_pos h0, if_neg h1, decide_eq_false (fun g : No x.f0 ∧ No x.f1 ∧ No x.f2 ∧ No x.f3 ∧ No x.f5 ∧ x.f1 ≠ x.f2 => h1 g.2.1)]
            rfl
        · rw [if_neg h0, decide_eq_false (fun g : No x.f0 ∧ No x.f1 ∧ No x.f2 ∧ No x.f3 ∧ No x.f5 ∧ x.f1 ≠ x.f2 => h0 g.1)]
          rfl
      have e1 : ∀ k, impl_TradesOk.j1 (k + 1) l (i : Int) l (l.length : Int) (i : Int) false x.f0 x.f1 x.f2 x.f3 x.f4 x.f5 x.f6 x.f7 = if Amt1 1 x.f4 then (if Amt1 0 x.f6 then (if Sta x.f7 then (if (i : Int) > 0 then (if 0 ≤ wrap64 ((i : Int) - 1) then (if wrap64 ((i : Int) - 1) < (l.length : Int) then (if (rd_T50 l (wrap64 ((i : Int) - 1))).f0 ≥ x.f0 then some false else impl_TradesOk.l0 k l l (l.length : Int) ((i + 1 : Nat) : Int)) else none) else none) else impl_TradesOk.l0 k l l (l.length : Int) ((i + 1 : Nat) : Int)) else some false) else some false) else some false := fun k => by
        simp only [impl_TradesOk.j1]
        rw [if_neg (by decide), w_succ hi (by omega)]
        simp only [amt_in, sta_in, Option.bind_some, decide_eq_true_iff]
      unfold Good
      rw [hx]
      by_cases hA : No x.f0 ∧ No x.f1 ∧ No x.f2 ∧ No x.f3 ∧ No x.f5 ∧ x.f1 ≠ x.f2
      · rw [decide_eq_true hA] at e
        have stop : (∀ k, impl_TradesOk.j1 (k + 1) l (i : Int) l (l.length : Int) (i : Int) false x.f0 x.f1 x.f2 x.f3 x.f4 x.f5 x.f6 x.f7 = some false) → Ev (fun k => impl_TradesOk.l0 k l l (l.length : Int) (i : Int)) false := fun h => Ev.step e (Ev_one h)
        have go : (∀ k, impl_TradesOk.j1 (k + 1) l (i : Int) l (l.length : Int) (i : Int) false x.f0 x.f1 x.f2 x.f3 x.f4 x.f5 x.f6 x.f7 = impl_TradesOk.l0 k l l (l.length : Int) ((i + 1 : Nat) : Int)) → ∀ r, Ev (fun k => impl_TradesOk.l0 k l l (l.length : Int) ((i + 1 : Nat) : Int)) r → Ev (fun k => impl_TradesOk.l0 k l l (l.length : Int) (i : Int)) r := fun h r hr => Ev.step e (Ev.step h hr)
        obtain ⟨h0, h1, h2, h3, h5, hne⟩ := hA
        by_cases h4 : Amt1 1 x.f4
        · by_cases h6 : Amt1 0 x.f6
          · by_cases h7 : Sta x.f7
            · by_cases hi0 : 0 < i
              · by_cases hlt : (l.getD (i - 1) z50).f0 < x.f0
                · exact .inl ⟨⟨h0, h1, h2, h3, h5, hne, h4, h6, h7, fun _ => hlt⟩, go fun k => by rw [e1, if_pos h4, if_pos h6, if_pos h7, if_pos (by omega), w_pred hi hi0 (by omega), if_pos (by omega), if_pos (by omega), rdT, if_neg (by omega)]⟩
                · exact .inr ⟨fun g => hlt (g.2.2.2.2.2.2.2.2.2 hi0), stop fun k => by rw [e1, if_pos h4, if_pos h6, if_pos h7, if_pos (by omega), w_pred hi hi0 (by omega), if_pos (by omega), if_pos (by omega), rdT, if_pos (by omega)]⟩
              · exact .inl ⟨⟨h0, h1, h2, h3, h5, hne, h4, h6, h7, fun g => absurd g hi0⟩, go fun k => by rw [e1, if_pos h4, if_pos h6, if_pos h7, if_neg (by omega)]⟩
            · exact .inr ⟨fun g => h7 g.2.2.2.2.2.2.2.2.1, stop fun k => by rw [e1, if_pos h4, if_pos h6, if_neg h7]⟩
          · exact .inr ⟨fun g => h6 g.2.2.2.2.2.2.2.1, stop fun k => by rw [e1, if_pos h4, if_neg h6]⟩
        · exact .inr ⟨fun g => h4 g.2.2.2.2.2.2.1, stop fun k => by rw [e1, if_neg h4]⟩
      · rw [decide_eq_false hA] at e
        exact .inr ⟨fun g => hA ⟨g.1, g.2.1, g.2.2.1, g.2.2.2.1, g.2.2.2.2.1, g.2.2.2.2.2.1⟩, Ev.step e (Ev_one fun k => by
          show impl_TradesOk.j1 (k + 1) l (i : Int) l (l.length : Int) (i : Int) true x.f0 x.f1 x.f2 x.f3 x.f4 x.f5 x.f6 x.f7 = _
          simp only [impl_TradesOk.j1]
          rw [if_pos trivial])⟩) l.length 0 (by omega) (by omega)
  refine ⟨r, hr, ?_⟩
  rw [hiff, decide_eq_true_iff]
  exact ⟨fun h => ⟨by omega, fun i hi => h.1 i (Nat.zero_le _) hi⟩, fun h => ⟨fun i _ hi => h.2 i hi, by omega⟩⟩
theorem trades_both (l : List ST) (hl : l.length ≤ 9223372036854775807) : ∃ r, Ev (fun k => spec_TradesOk.f k l) r ∧ Ev (fun k => impl_TradesOk.f k l) r := by
  obtain ⟨r, hr, h1⟩ := trades_s l hl
  obtain ⟨s, hs, h2⟩ := trades_i l hl
  have e : r = s := by rw [Bool.eq_iff_iff, h1, h2]
  exact ⟨r, hr, by rw [e]; exact hs⟩
end Go.Proofs.Ytmfgajbkcnlkcaa.F1
