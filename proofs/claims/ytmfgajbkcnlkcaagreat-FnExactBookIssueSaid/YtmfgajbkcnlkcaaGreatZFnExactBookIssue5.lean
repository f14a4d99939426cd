/- What the law FnExactBookIssue leans on, cut out of this repo's own texts by a program of this repo: plain functions, the walks that tie the Go calls to them, the law over lists and numbers, and the row. -/
import Derived.Test.YtmfgajbkcnlkcaaGreatZFnExactBookIssue4
import Derived.RowKit
import Derived.IntWalk
namespace Go.Proofs.YtmfgajbkcnlkcaaGreat.P
end Go.Proofs.YtmfgajbkcnlkcaaGreat.P
namespace Go.Proofs.YtmfgajbkcnlkcaaGreat.EV
end Go.Proofs.YtmfgajbkcnlkcaaGreat.EV
namespace Go.Proofs.YtmfgajbkcnlkcaaGreat.I1
end Go.Proofs.YtmfgajbkcnlkcaaGreat.I1
namespace Go.Proofs.YtmfgajbkcnlkcaaGreat.T1
end Go.Proofs.YtmfgajbkcnlkcaaGreat.T1
namespace Go.Proofs.YtmfgajbkcnlkcaaGreat.C1
end Go.Proofs.YtmfgajbkcnlkcaaGreat.C1
namespace Go.Proofs.YtmfgajbkcnlkcaaGreat.N1
end Go.Proofs.YtmfgajbkcnlkcaaGreat.N1
namespace Go.Proofs.YtmfgajbkcnlkcaaGreat.B1
end Go.Proofs.YtmfgajbkcnlkcaaGreat.B1
namespace Go.Proofs.YtmfgajbkcnlkcaaGreat.E1
end Go.Proofs.YtmfgajbkcnlkcaaGreat.E1
namespace Go.Proofs.YtmfgajbkcnlkcaaGreat.C2
end Go.Proofs.YtmfgajbkcnlkcaaGreat.C2
namespace Go.Proofs.YtmfgajbkcnlkcaaGreat.B2
end Go.Proofs.YtmfgajbkcnlkcaaGreat.B2
namespace Go.Proofs.YtmfgajbkcnlkcaaGreat.M1
end Go.Proofs.YtmfgajbkcnlkcaaGreat.M1
namespace Go.Proofs.YtmfgajbkcnlkcaaGreat.AI
open Go Go.RowKit Go.Proofs.YtmfgajbkcnlkcaaGreatW.PrintWords Go.Proofs.YtmfgajbkcnlkcaaGreat.P
set_option linter.unusedVariables false
set_option linter.all false
set_option maxRecDepth 100000
set_option maxHeartbeats 4000000
noncomputable section
def o139 (l0 : List S106) (r : Int) : Out Rw := ⟨[.c (.sc (.i .i64 r))], [.rows 0 (.e106 l0)]⟩
def Q139 : Mean Rw := fun k a h Z K => match a, h with
  | [.w (.c (.rw 0)), .w (.c (.sc (.i .i64 a1))), .w (.c (.sc (.i .i64 a2)))], [.rows 0 (.e106 l0)] => (impl_balOf.f k l0 a1 a2).bind fun r => K (o139 l0 r)
  | _, _ => none
def q139 : Cal Rw := ⟨139, false, Q139⟩
def O139 : List (Cal Rw) := [q172]
def K139 : List (Cut Rw) := []
theorem d139 : Sound Tryz.prog q139 := fn_d (O := O139) (cs := K139) (cons_ d172 nil_) mixed Tryz.func139 nil_ nil_ fun k a h Z K z e => by
  unfold Q139 at e; split at e
  · rename_i a1 a2 l0
    exact ent e (Lo.of (b := ((impl_balAt.f k l0 a1 a2).bind fun r4 => (if r4.2 = true then (if 0 ≤ r4.1 then (if r4.1 < (l0.length : Int) then (some (o139 l0 ((rd_T106 l0 r4.1).f2))) else none) else none) else (some (o139 l0 0))))) (by kernel_rfl) (by unfold impl_balOf.f; exact lo_))
  · cases e
def o95 (l0_0 : List S80) (l0_1 : List S84) (l0_2 : List S106) (l0_3 : List S110) (l0_4 : List S60) (r : Bool) : Out Rw := ⟨[.c (.sc (.b r))], [.rows 0 (.e80 l0_0), .rows 0 (.e84 l0_1), .rows 0 (.e106 l0_2), .rows 0 (.e110 l0_3), .rows 0 (.e60 l0_4)]⟩
def Q95 : Mean Rw := fun k a h Z K => match a, h with
  | [.w (.ag [.rw 0, .rw 1, .rw 2, .rw 3, .rw 4, .sc (.i .i64 a0_5)])], [.rows 0 (.e80 l0_0), .rows 0 (.e84 l0_1), .rows 0 (.e106 l0_2), .rows 0 (.e110 l0_3), .rows 0 (.e60 l0_4)] => (impl_lotsRight.f k l0_0 l0_1 l0_2 l0_3 l0_4 a0_5).bind fun r => K (o95 l0_0 l0_1 l0_2 l0_3 l0_4 r)
  | _, _ => none
def q95 : Cal Rw := ⟨95, false, Q95⟩
def O95 : List (Cal Rw) := [q108, q110, q137, q136, q139]
def C95_0 : Nat → St Rw → Option (Out Rw) := fun k st => match st with
  | ⟨84, 5, 6, [(1, .pt 5 0), (12, .w (.c (.rw 3))), (13, .w (.c (.sc (.i .i64 x13)))), (14, .w (.c (.sc (.i .i64 x14))))], [(0, .rows 0 (.e80 l0_0)), (1, .rows 0 (.e84 l0_1)), (2, .rows 0 (.e106 l0_2)), (3, .rows 0 (.e110 l0_3)), (4, .rows 0 (.e60 l0_4)), (5, .box 36 [.rw 0, .rw 1, .rw 2, .rw 3, .rw 4, .sc (.i .i64 b5_5)])]⟩ => (impl_lotsRight.l0 k l0_3 x13 x14 l0_0 l0_1 l0_2 l0_3 l0_4 b5_5).bind fun r => some (o95 l0_0 l0_1 l0_2 l0_3 l0_4 r)
  | _ => none
def C95_1 : Nat → St Rw → Option (Out Rw) := fun k st => match st with
  | ⟨84, 5, 6, [(1, .pt 5 0), (41, .w (.c (.rw 0))), (42, .w (.c (.sc (.i .i64 x42)))), (43, .w (.c (.sc (.i .i64 x43))))], [(0, .rows 0 (.e80 l0_0)), (1, .rows 0 (.e84 l0_1)), (2, .rows 0 (.e106 l0_2)), (3, .rows 0 (.e110 l0_3)), (4, .rows 0 (.e60 l0_4)), (5, .box 36 [.rw 0, .rw 1, .rw 2, .rw 3, .rw 4, .sc (.i .i64 b5_5)])]⟩ => (impl_lotsRight.l1 k l0_0 x42 x43 l0_0 l0_1 l0_2 l0_3 l0_4 b5_5).bind fun r => some (o95 l0_0 l0_1 l0_2 l0_3 l0_4 r)
  | _ => none
def C95_2 : Nat → St Rw → Option (Out Rw) := fun k st => match st with
  | ⟨84, 5, 7, [(1, .pt 5 0), (6, .pt 6 0), (41, .w (.c (.rw 0))), (42, .w (.c (.sc (.i .i64 x42)))), (43, .w (.c (.sc (.i .i64 x43)))), (48, .w (.c (.rw 1))), (49, .w (.c (.sc (.i .i64 x49)))), (50, .w (.c (.sc (.i .i64 x50))))], [(0, .rows 0 (.e80 l0_0)), (1, .rows 0 (.e84 l0_1)), (2, .rows 0 (.e106 l0_2)), (3, .rows 0 (.e110 l0_3)), (4, .rows 0 (.e60 l0_4)), (5, .box 36 [.rw 0, .rw 1, .rw 2, .rw 3, .rw 4, .sc (.i .i64 b5_5)]), (6, .box 80 [.sc (.i .i64 b6_0), .sc (.i .i64 b6_1)])]⟩ => (impl_lotsRight.l2 k l0_0 x42 x43 l0_1 x49 x50 l0_0 l0_1 l0_2 l0_3 l0_4 b5_5 b6_0 b6_1).bind fun r => some (o95 l0_0 l0_1 l0_2 l0_3 l0_4 r)
  | _ => none
def C95_3 : Nat → St Rw → Option (Out Rw) := fun k st => match st with
  | ⟨84, 5, 8, [(1, .pt 5 0), (6, .pt 6 0), (8, .pt 7 0), (41, .w (.c (.rw 0))), (42, .w (.c (.sc (.i .i64 x42)))), (43, .w (.c (.sc (.i .i64 x43)))), (48, .w (.c (.rw 1))), (49, .w (.c (.sc (.i .i64 x49)))), (50, .w (.c (.sc (.i .i64 x50)))), (61, .w (.c (.sc (.b x61))))], [(0, .rows 0 (.e80 l0_0)), (1, .rows 0 (.e84 l0_1)), (2, .rows 0 (.e106 l0_2)), (3, .rows 0 (.e110 l0_3)), (4, .rows 0 (.e60 l0_4)), (5, .box 36 [.rw 0, .rw 1, .rw 2, .rw 3, .rw 4, .sc (.i .i64 b5_5)]), (6, .box 80 [.sc (.i .i64 b6_0), .sc (.i .i64 b6_1)]), (7, .box 84 [.sc (.i .i64 b7_0), .sc (.i .i64 b7_1)])]⟩ => (impl_lotsRight.j3 k l0_0 x42 x43 l0_1 x49 x50 x61 l0_0 l0_1 l0_2 l0_3 l0_4 b5_5 b6_0 b6_1 b7_0 b7_1).bind fun r => some (o95 l0_0 l0_1 l0_2 l0_3 l0_4 r)
  | _ => none
def K95 : List (Cut Rw) := [⟨[false, true, false, true], [1, 12, 13, 14], C95_0⟩, ⟨[false, true, false, true, true], [1, 41, 42, 43], C95_1⟩, ⟨[false, true, true, false, false, true, true, false, false, true, false, true, true], [1, 6, 41, 42, 43, 48, 49, 50], C95_2⟩, ⟨[true, false, true, false, false, true, true, false, false, true, true, false, false, true, true, false, false, true, false, true, true], [1, 6, 8, 41, 42, 43, 48, 49, 50, 61], C95_3⟩]
theorem h95_0 : HH Tryz.prog O95 K95 Tryz.f95 [false, true, false, true] C95_0 := fun k st out h => by
  unfold C95_0 at h; split at h
  · rename_i x13 x14 l0_0 l0_1 l0_2 l0_3 l0_4 b5_5
    exact Lo.of (b := (if x14 < x13 then (if 0 ≤ x14 then (if x14 < (l0_3.length : Int) then ((impl_accountKind.f k l0_0 (rd_T110 l0_3 x14).f0).bind fun r9 => (if r9 = 1 then ((impl_instrKind.f k l0_1 (rd_T110 l0_3 x14).f1).bind fun r10 => (if r10 = 2 then (if (rd_T110 l0_3 x14).f2 > b5_5 then (some (o95 l0_0 l0_1 l0_2 l0_3 l0_4 false)) else ((impl_lotsRight.l0 k l0_3 x13 (RowKit.wrap64 (x14 + 1)) l0_0 l0_1 l0_2 l0_3 l0_4 b5_5).bind fun r => some (o95 l0_0 l0_1 l0_2 l0_3 l0_4 r))) else (some (o95 l0_0 l0_1 l0_2 l0_3 l0_4 false)))) else (some (o95 l0_0 l0_1 l0_2 l0_3 l0_4 false)))) else none) else none) else ((impl_lotsRight.l1 k l0_0 ((l0_0.length : Int)) 0 l0_0 l0_1 l0_2 l0_3 l0_4 b5_5).bind fun r => some (o95 l0_0 l0_1 l0_2 l0_3 l0_4 r)))) (by kernel_rfl) (by rw [impl_lotsRight.l0]; exact lo_) _ h
  · cases h
theorem h95_1 : HH Tryz.prog O95 K95 Tryz.f95 [false, true, false, true, true] C95_1 := fun k st out h => by
  unfold C95_1 at h; split at h
  · rename_i x42 x43 l0_0 l0_1 l0_2 l0_3 l0_4 b5_5
    exact Lo.of (b := (if x43 < x42 then (if 0 ≤ x43 then (if x43 < (l0_0.length : Int) then ((impl_lotsRight.l2 k l0_0 x42 x43 l0_1 ((l0_1.length : Int)) 0 l0_0 l0_1 l0_2 l0_3 l0_4 b5_5 ((rd_T80 l0_0 x43).f0) ((rd_T80 l0_0 x43).f1)).bind fun r => some (o95 l0_0 l0_1 l0_2 l0_3 l0_4 r)) else none) else none) else (some (o95 l0_0 l0_1 l0_2 l0_3 l0_4 true)))) (by kernel_rfl) (by rw [impl_lotsRight.l1]; exact lo_) _ h
  · cases h
theorem h95_2 : HH Tryz.prog O95 K95 Tryz.f95 [false, true, true, false, false, true, true, false, false, true, false, true, true] C95_2 := fun k st out h => by
  unfold C95_2 at h; split at h
  · rename_i x42 x43 x49 x50 l0_0 l0_1 l0_2 l0_3 l0_4 b5_5 b6_0 b6_1
    exact Lo.of (b := (if x50 < x49 then (if 0 ≤ x50 then (if x50 < (l0_1.length : Int) then (if b6_1 = 1 then ((impl_lotsRight.j3 k l0_0 x42 x43 l0_1 x49 x50 (!decide ((rd_T84 l0_1 x50).f1 = 2)) l0_0 l0_1 l0_2 l0_3 l0_4 b5_5 b6_0 b6_1 ((rd_T84 l0_1 x50).f0) ((rd_T84 l0_1 x50).f1)).bind fun r => some (o95 l0_0 l0_1 l0_2 l0_3 l0_4 r)) else ((impl_lotsRight.j3 k l0_0 x42 x43 l0_1 x49 x50 true l0_0 l0_1 l0_2 l0_3 l0_4 b5_5 b6_0 b6_1 ((rd_T84 l0_1 x50).f0) ((rd_T84 l0_1 x50).f1)).bind fun r => some (o95 l0_0 l0_1 l0_2 l0_3 l0_4 r))) else none) else none) else ((impl_lotsRight.l1 k l0_0 x42 (RowKit.wrap64 (x43 + 1)) l0_0 l0_1 l0_2 l0_3 l0_4 b5_5).bind fun r => some (o95 l0_0 l0_1 l0_2 l0_3 l0_4 r)))) (by kernel_rfl) (by rw [impl_lotsRight.l2]; exact lo_) _ h
  · cases h
theorem h95_3 : HH Tryz.prog O95 K95 Tryz.f95 [true, false, true, false, false, true, true, false, false, true, true, false, false, true, true, false, false, true, false, true, true] C95_3 := fun k st out h => by
  unfold C95_3 at h; split at h
  · rename_i x42 x43 x49 x50 x61 l0_0 l0_1 l0_2 l0_3 l0_4 b5_5 b6_0 b6_1 b7_0 b7_1
    exact Lo.of (b := (if x61 = true then ((impl_lotsRight.l2 k l0_0 x42 x43 l0_1 x49 (RowKit.wrap64 (x50 + 1)) l0_0 l0_1 l0_2 l0_3 l0_4 b5_5 b6_0 b6_1).bind fun r => some (o95 l0_0 l0_1 l0_2 l0_3 l0_4 r)) else ((impl_lotsOf.f l0_3 b6_0 b7_0).bind fun r16 => ((impl_sumLots.f k r16).bind fun r17 => ((impl_balOf.f k l0_2 b6_0 b7_0).bind fun r18 => (if r17.1 = r18 then ((impl_lotsRight.l2 k l0_0 x42 x43 l0_1 x49 (RowKit.wrap64 (x50 + 1)) l0_0 l0_1 l0_2 l0_3 l0_4 b5_5 b6_0 b6_1).bind fun r => some (o95 l0_0 l0_1 l0_2 l0_3 l0_4 r)) else (some (o95 l0_0 l0_1 l0_2 l0_3 l0_4 false)))))))) (by kernel_rfl) (by rw [impl_lotsRight.j3]; exact lo_) _ h
  · cases h
theorem d95 : Sound Tryz.prog q95 := fn_d (O := O95) (cs := K95) (cons_ d108 (cons_ d110 (cons_ d137 (cons_ d136 (cons_ d139 nil_))))) mixed Tryz.func95 (cons_ (fun st => by show C95_0 0 st = none; unfold C95_0; split <;> rfl) (cons_ (fun st => by show C95_1 0 st = none; unfold C95_1; split <;> rfl) (cons_ (fun st => by show C95_2 0 st = none; unfold C95_2; split <;> rfl) (cons_ (fun st => by show C95_3 0 st = none; unfold C95_3; split <;> rfl) nil_)))) (cons_ h95_0 (cons_ h95_1 (cons_ h95_2 (cons_ h95_3 nil_)))) fun k a h Z K z e => by
  unfold Q95 at e; split at e
  · rename_i a0_5 l0_0 l0_1 l0_2 l0_3 l0_4
    exact ent e (Lo.of (b := ((impl_lotsRight.l0 k l0_3 ((l0_3.length : Int)) 0 l0_0 l0_1 l0_2 l0_3 l0_4 a0_5).bind fun r => some (o95 l0_0 l0_1 l0_2 l0_3 l0_4 r))) (by kernel_rfl) (by unfold impl_lotsRight.f; exact lo_))
  · cases e
def o37 (l0_0 : List S80) (l0_1 : List S84) (l0_2 : List S106) (l0_3 : List S110) (l0_4 : List S60) (r : Bool) : Out Rw := ⟨[.c (.sc (.b r))], [.rows 0 (.e80 l0_0), .rows 0 (.e84 l0_1), .rows 0 (.e106 l0_2), .rows 0 (.e110 l0_3), .rows 0 (.e60 l0_4)]⟩
def Q37 : Mean Rw := fun k a h Z K => match a, h with
  | [.w (.ag [.rw 0, .rw 1, .rw 2, .rw 3, .rw 4, .sc (.i .i64 a0_5)])], [.rows 0 (.e80 l0_0), .rows 0 (.e84 l0_1), .rows 0 (.e106 l0_2), .rows 0 (.e110 l0_3), .rows 0 (.e60 l0_4)] => (impl_BooksOk.f k l0_0 l0_1 l0_2 l0_3 l0_4 a0_5).bind fun r => K (o37 l0_0 l0_1 l0_2 l0_3 l0_4 r)
  | _, _ => none
def q37 : Cal Rw := ⟨37, false, Q37⟩
def O37 : List (Cal Rw) := [q89, q90, q91, q92, q93, q59, q94, q95, q96]
def C37_0 : Nat → St Rw → Option (Out Rw) := fun k st => match st with
  | ⟨47, 5, 6, [(1, .pt 5 0), (36, .w (.c (.sc (.b x36))))], [(0, .rows 0 (.e80 l0_0)), (1, .rows 0 (.e84 l0_1)), (2, .rows 0 (.e106 l0_2)), (3, .rows 0 (.e110 l0_3)), (4, .rows 0 (.e60 l0_4)), (5, .box 36 [.rw 0, .rw 1, .rw 2, .rw 3, .rw 4, .sc (.i .i64 b5_5)])]⟩ => (impl_BooksOk.j0 k x36 l0_0 l0_1 l0_2 l0_3 l0_4 b5_5).bind fun r => some (o37 l0_0 l0_1 l0_2 l0_3 l0_4 r)
  | _ => none
def K37 : List (Cut Rw) := [⟨[true, false, true], [1, 36], C37_0⟩]
theorem h37_0 : HH Tryz.prog O37 K37 Tryz.f37 [true, false, true] C37_0 := fun k st out h => by
  unfold C37_0 at h; split at h
  · rename_i x36 l0_0 l0_1 l0_2 l0_3 l0_4 b5_5
    exact Lo.of (b := (if x36 = true then (some (o37 l0_0 l0_1 l0_2 l0_3 l0_4 false)) else ((impl_balsRight.f k l0_0 l0_1 l0_2 l0_3 l0_4 b5_5).bind fun r8 => (if r8 = true then ((impl_lotsRight.f k l0_0 l0_1 l0_2 l0_3 l0_4 b5_5).bind fun r9 => (if r9 = true then ((impl_tradesRight.f l0_0 l0_1 l0_2 l0_3 l0_4 b5_5).bind fun r10 => (some (o37 l0_0 l0_1 l0_2 l0_3 l0_4 r10))) else (some (o37 l0_0 l0_1 l0_2 l0_3 l0_4 false)))) else (some (o37 l0_0 l0_1 l0_2 l0_3 l0_4 false)))))) (by kernel_rfl) (by rw [impl_BooksOk.j0]; exact lo_) _ h
  · cases h
theorem d37 : Sound Tryz.prog q37 := fn_d (O := O37) (cs := K37) (cons_ d89 (cons_ d90 (cons_ d91 (cons_ d92 (cons_ d93 (cons_ d59 (cons_ d94 (cons_ d95 (cons_ d96 nil_))))))))) mixed Tryz.func37 (cons_ (fun st => by show C37_0 0 st = none; unfold C37_0; split <;> rfl) nil_) (cons_ h37_0 nil_) fun k a h Z K z e => by
  unfold Q37 at e; split at e
  · rename_i a0_5 l0_0 l0_1 l0_2 l0_3 l0_4
    exact ent e (Lo.of (b := ((impl_AccountsOk.f k l0_0).bind fun r7 => (if r7 = true then ((impl_InstrsOk.f k l0_1).bind fun r8 => (if r8 = true then ((impl_BalsOk.f k l0_2).bind fun r9 => (if r9 = true then ((impl_LotsOk.f l0_3).bind fun r10 => (if r10 = true then ((impl_TradesOk.f k l0_4).bind fun r11 => (if r11 = true then ((impl_in.f a0_5 0 1000000000).bind fun r12 => ((impl_BooksOk.j0 k (!decide (r12 = true)) l0_0 l0_1 l0_2 l0_3 l0_4 a0_5).bind fun r => some (o37 l0_0 l0_1 l0_2 l0_3 l0_4 r))) else ((impl_BooksOk.j0 k true l0_0 l0_1 l0_2 l0_3 l0_4 a0_5).bind fun r => some (o37 l0_0 l0_1 l0_2 l0_3 l0_4 r)))) else ((impl_BooksOk.j0 k true l0_0 l0_1 l0_2 l0_3 l0_4 a0_5).bind fun r => some (o37 l0_0 l0_1 l0_2 l0_3 l0_4 r)))) else ((impl_BooksOk.j0 k true l0_0 l0_1 l0_2 l0_3 l0_4 a0_5).bind fun r => some (o37 l0_0 l0_1 l0_2 l0_3 l0_4 r)))) else ((impl_BooksOk.j0 k true l0_0 l0_1 l0_2 l0_3 l0_4 a0_5).bind fun r => some (o37 l0_0 l0_1 l0_2 l0_3 l0_4 r)))) else ((impl_BooksOk.j0 k true l0_0 l0_1 l0_2 l0_3 l0_4 a0_5).bind fun r => some (o37 l0_0 l0_1 l0_2 l0_3 l0_4 r))))) (by kernel_rfl) (by unfold impl_BooksOk.f; exact lo_))
  · cases e
def o39 (l0_0 : List S80) (l0_1 : List S84) (l0_2 : List S106) (l0_3 : List S110) (l0_4 : List S60) (r : (List (S80)) × (List (S84)) × (List (S106)) × (List (S110)) × (List (S60)) × Int) : Out Rw := ⟨[.ag [.rw 5, .rw 6, .rw 7, .rw 8, .rw 9, .sc (.i .i64 r.2.2.2.2.2)]], [.rows 0 (.e80 l0_0), .rows 0 (.e84 l0_1), .rows 0 (.e106 l0_2), .rows 0 (.e110 l0_3), .rows 0 (.e60 l0_4), .rows 2 (.e80 r.1), .rows 2 (.e84 r.2.1), .rows 2 (.e106 r.2.2.1), .rows 2 (.e110 r.2.2.2.1), .rows 2 (.e60 r.2.2.2.2.1)]⟩
def Q39 : Mean Rw := fun k a h Z K => match a, h with
  | [.w (.ag [.rw 0, .rw 1, .rw 2, .rw 3, .rw 4, .sc (.i .i64 a0_5)])], [.rows 0 (.e80 l0_0), .rows 0 (.e84 l0_1), .rows 0 (.e106 l0_2), .rows 0 (.e110 l0_3), .rows 0 (.e60 l0_4)] => (impl_cloneBooks.f l0_0 l0_1 l0_2 l0_3 l0_4 a0_5).bind fun r => K (o39 l0_0 l0_1 l0_2 l0_3 l0_4 r)
  | _, _ => none
def q39 : Cal Rw := ⟨39, false, Q39⟩
def O39 : List (Cal Rw) := [q97, q98, q99, q100, q101]
def K39 : List (Cut Rw) := []
theorem d39 : Sound Tryz.prog q39 := fn_d (O := O39) (cs := K39) (cons_ d97 (cons_ d98 (cons_ d99 (cons_ d100 (cons_ d101 nil_))))) mixed Tryz.func39 nil_ nil_ fun k a h Z K z e => by
  unfold Q39 at e; split at e
  · rename_i a0_5 l0_0 l0_1 l0_2 l0_3 l0_4
    exact ent e (Lo.of (b := ((impl_Account_97.f l0_0).bind fun r7 => ((impl_Instr_98.f l0_1).bind fun r8 => ((impl_Bal_99.f l0_2).bind fun r9 => ((impl_Lot_100.f l0_3).bind fun r10 => ((impl_Trade.f l0_4).bind fun r11 => (some (o39 l0_0 l0_1 l0_2 l0_3 l0_4 (r7, r8, r9, r10, r11, a0_5))))))))) (by kernel_rfl) (by unfold impl_cloneBooks.f; exact lo_))
  · cases e
def W60 (k : Nat) (d : Int) (l0 : List S80) (l1 : List S84) (l2 : List S106) (l3 : List S110) (l4 : List S60) (a1 : Int) (Z : Type) (K : Out Rw → Option Z) : Option Z := ((impl_accountKind.f k l0 a1).bind fun r8 => (K ⟨[.c (.sc (.i .i64 r8))], [.box 36 [.rw 1, .rw 2, .rw 3, .rw 4, .rw 5, .sc (.i .i64 d)], .rows 0 (.e80 l0), .rows 0 (.e84 l1), .rows 0 (.e106 l2), .rows 0 (.e110 l3), .rows 0 (.e60 l4)]⟩))
def Q60 : Mean Rw := fun k a h Z K => match a, h with
  | [.pt 0 0, .w (.c (.sc (.i .i64 a1)))], [.box 36 [.rw 1, .rw 2, .rw 3, .rw 4, .rw 5, .sc (.i .i64 d)], .rows 0 (.e80 l0), .rows 0 (.e84 l1), .rows 0 (.e106 l2), .rows 0 (.e110 l3), .rows 0 (.e60 l4)] => W60 k d l0 l1 l2 l3 l4 a1 Z K
  | _, _ => none
def q60 : Cal Rw := ⟨60, false, Q60⟩
def O60 : List (Cal Rw) := [q108]
theorem d60 : Sound Tryz.prog q60 := fn_d (O := O60) (cs := []) (cons_ d108 nil_) mixed Tryz.func60 nil_ nil_ fun k a h Z K z e => by
  unfold Q60 at e; split at e
  · rename_i a1 d l0 l1 l2 l3 l4
    exact tk_ (x := W60 k d l0 l1 l2 l3 l4 a1 _ some) e (by kernel_rfl) (by unfold W60; exact tkw_)
  · cases e
def W64 (k : Nat) (d : Int) (l0 : List S80) (l1 : List S84) (l2 : List S106) (l3 : List S110) (l4 : List S60) (a1 : Int) (Z : Type) (K : Out Rw → Option Z) : Option Z := ((impl_instrKind.f k l1 a1).bind fun r8 => (K ⟨[.c (.sc (.b (!decide (r8 = 0))))], [.box 36 [.rw 1, .rw 2, .rw 3, .rw 4, .rw 5, .sc (.i .i64 d)], .rows 0 (.e80 l0), .rows 0 (.e84 l1), .rows 0 (.e106 l2), .rows 0 (.e110 l3), .rows 0 (.e60 l4)]⟩))
def Q64 : Mean Rw := fun k a h Z K => match a, h with
  | [.pt 0 0, .w (.c (.sc (.i .i64 a1)))], [.box 36 [.rw 1, .rw 2, .rw 3, .rw 4, .rw 5, .sc (.i .i64 d)], .rows 0 (.e80 l0), .rows 0 (.e84 l1), .rows 0 (.e106 l2), .rows 0 (.e110 l3), .rows 0 (.e60 l4)] => W64 k d l0 l1 l2 l3 l4 a1 Z K
  | _, _ => none
def q64 : Cal Rw := ⟨64, false, Q64⟩
def O64 : List (Cal Rw) := [q110]
theorem d64 : Sound Tryz.prog q64 := fn_d (O := O64) (cs := []) (cons_ d110 nil_) mixed Tryz.func64 nil_ nil_ fun k a h Z K z e => by
  unfold Q64 at e; split at e
  · rename_i a1 d l0 l1 l2 l3 l4
    exact tk_ (x := W64 k d l0 l1 l2 l3 l4 a1 _ some) e (by kernel_rfl) (by unfold W64; exact tkw_)
  · cases e
def W71 (k : Nat) (d : Int) (l0 : List S80) (l1 : List S84) (l2 : List S106) (l3 : List S110) (l4 : List S60) (a1 : Int) (Z : Type) (K : Out Rw → Option Z) : Option Z := ((impl_instrKind.f k l1 a1).bind fun r8 => (K ⟨[.c (.sc (.i .i64 r8))], [.box 36 [.rw 1, .rw 2, .rw 3, .rw 4, .rw 5, .sc (.i .i64 d)], .rows 0 (.e80 l0), .rows 0 (.e84 l1), .rows 0 (.e106 l2), .rows 0 (.e110 l3), .rows 0 (.e60 l4)]⟩))
def Q71 : Mean Rw := fun k a h Z K => match a, h with
  | [.pt 0 0, .w (.c (.sc (.i .i64 a1)))], [.box 36 [.rw 1, .rw 2, .rw 3, .rw 4, .rw 5, .sc (.i .i64 d)], .rows 0 (.e80 l0), .rows 0 (.e84 l1), .rows 0 (.e106 l2), .rows 0 (.e110 l3), .rows 0 (.e60 l4)] => W71 k d l0 l1 l2 l3 l4 a1 Z K
  | _, _ => none
def q71 : Cal Rw := ⟨71, false, Q71⟩
def O71 : List (Cal Rw) := [q110]
theorem d71 : Sound Tryz.prog q71 := fn_d (O := O71) (cs := []) (cons_ d110 nil_) mixed Tryz.func71 nil_ nil_ fun k a h Z K z e => by
  unfold Q71 at e; split at e
  · rename_i a1 d l0 l1 l2 l3 l4
    exact tk_ (x := W71 k d l0 l1 l2 l3 l4 a1 _ some) e (by kernel_rfl) (by unfold W71; exact tkw_)
  · cases e
def o156 (l0 : List S93) (r : Bool) : Out Rw := ⟨[.c (.sc (.b r))], [.rows 0 (.e93 l0)]⟩
def Q156 : Mean Rw := fun k a h Z K => match a, h with
  | [.w (.c (.rw 0))], [.rows 0 (.e93 l0)] => (impl_LegsOk.f k l0).bind fun r => K (o156 l0 r)
  | _, _ => none
def q156 : Cal Rw := ⟨156, false, Q156⟩
def O156 : List (Cal Rw) := [q155]
def C156_0 : Nat → St Rw → Option (Out Rw) := fun k st => match st with
  | ⟨36, 1, 1, [(0, .w (.c (.rw 0))), (11, .w (.c (.rw 0))), (12, .w (.c (.sc (.i .i64 x12)))), (13, .w (.c (.sc (.i .i64 x13))))], [(0, .rows 0 (.e93 l0))]⟩ => (impl_LegsOk.l0 k l0 l0 x12 x13).bind fun r => some (o156 l0 r)
  | _ => none
def C156_1 : Nat → St Rw → Option (Out Rw) := fun k st => match st with
  | ⟨36, 1, 2, [(0, .w (.c (.rw 0))), (4, .pt 1 0), (5, .w (.c (.sc (.i .i64 x5)))), (11, .w (.c (.rw 0))), (12, .w (.c (.sc (.i .i64 x12)))), (13, .w (.c (.sc (.i .i64 x13)))), (17, .w (.c (.rw 0))), (18, .w (.c (.sc (.i .i64 x18)))), (19, .w (.c (.sc (.i .i64 x19))))], [(0, .rows 0 (.e93 l0)), (1, .box 93 [.sc (.i .i64 b1_0), .sc (.i .i64 b1_1), .sc (.i .i64 b1_2)])]⟩ => (impl_LegsOk.l1 k l0 x5 l0 x12 x13 l0 x18 x19 b1_0 b1_1 b1_2).bind fun r => some (o156 l0 r)
  | _ => none
def K156 : List (Cut Rw) := [⟨[false, true, false, true, true], [0, 11, 12, 13], C156_0⟩, ⟨[false, true, false, true, true, false, false, true, true, false, false, true, false, true, true], [0, 4, 5, 11, 12, 13, 17, 18, 19], C156_1⟩]
theorem h156_0 : HH Tryz.prog O156 K156 Tryz.f156 [false, true, false, true, true] C156_0 := fun k st out h => by
  unfold C156_0 at h; split at h
  · rename_i x12 x13 l0
    exact Lo.of (b := (if x13 < x12 then (if 0 ≤ x13 then (if x13 < (l0.length : Int) then ((impl_LegsOk.l1 k l0 0 l0 x12 x13 l0 ((l0.length : Int)) 0 ((rd_T93 l0 x13).f0) ((rd_T93 l0 x13).f1) ((rd_T93 l0 x13).f2)).bind fun r => some (o156 l0 r)) else none) else none) else (some (o156 l0 true)))) (by kernel_rfl) (by rw [impl_LegsOk.l0]; exact lo_) _ h
  · cases h
theorem h156_1 : HH Tryz.prog O156 K156 Tryz.f156 [false, true, false, true, true, false, false, true, true, false, false, true, false, true, true] C156_1 := fun k st out h => by
  unfold C156_1 at h; split at h
  · rename_i x5 x12 x13 x18 x19 l0 b1_0 b1_1 b1_2
    exact Lo.of (b := (if x19 < x18 then (if 0 ≤ x19 then (if x19 < (l0.length : Int) then (if (rd_T93 l0 x19).f1 = b1_1 then ((impl_LegsOk.l1 k l0 (RowKit.wrap64 (x5 + (rd_T93 l0 x19).f2)) l0 x12 x13 l0 x18 (RowKit.wrap64 (x19 + 1)) b1_0 b1_1 b1_2).bind fun r => some (o156 l0 r)) else ((impl_LegsOk.l1 k l0 x5 l0 x12 x13 l0 x18 (RowKit.wrap64 (x19 + 1)) b1_0 b1_1 b1_2).bind fun r => some (o156 l0 r))) else none) else none) else (if x5 = 0 then ((impl_LegsOk.l0 k l0 l0 x12 (RowKit.wrap64 (x13 + 1))).bind fun r => some (o156 l0 r)) else (some (o156 l0 false))))) (by kernel_rfl) (by rw [impl_LegsOk.l1]; exact lo_) _ h
  · cases h
theorem d156 : Sound Tryz.prog q156 := fn_d (O := O156) (cs := K156) (cons_ d155 nil_) mixed Tryz.func156 (cons_ (fun st => by show C156_0 0 st = none; unfold C156_0; split <;> rfl) (cons_ (fun st => by show C156_1 0 st = none; unfold C156_1; split <;> rfl) nil_)) (cons_ h156_0 (cons_ h156_1 nil_)) fun k a h Z K z e => by
  unfold Q156 at e; split at e
  · rename_i l0
    exact ent e (Lo.of (b := ((impl_legsForm.f l0).bind fun r2 => (if r2 = true then ((impl_LegsOk.l0 k l0 l0 ((l0.length : Int)) 0).bind fun r => some (o156 l0 r)) else (some (o156 l0 false))))) (by kernel_rfl) (by unfold impl_LegsOk.f; exact lo_))
  · cases e
def o179 (l0 : List Int) (r : Int) : Out Rw := ⟨[.c (.sc (.i .i64 r))], [.rows 0 (.eI l0)]⟩
def Q179 : Mean Rw := fun k a h Z K => match a, h with
  | [.w (.c (.rw 0)), .w (.c (.sc (.i .i64 a1)))], [.rows 0 (.eI l0)] => (slices_Index_int_int.f k l0 a1).bind fun r => K (o179 l0 r)
  | _, _ => none
def q179 : Cal Rw := ⟨179, false, Q179⟩
def O179 : List (Cal Rw) := []
def C179_0 : Nat → St Rw → Option (Out Rw) := fun k st => match st with
  | ⟨19, 1, 1, [(0, .w (.c (.rw 0))), (1, .w (.c (.sc (.i .i64 x1)))), (7, .w (.c (.sc (.i .i64 x7)))), (8, .w (.c (.sc (.i .i64 x8))))], [(0, .rows 0 (.eI l0))]⟩ => (slices_Index_int_int.l0 k l0 x1 x7 x8).bind fun r => some (o179 l0 r)
  | _ => none
def K179 : List (Cut Rw) := [⟨[false, true, false, true], [0, 1, 7, 8], C179_0⟩]
theorem h179_0 : HH Tryz.prog O179 K179 Tryz.f179 [false, true, false, true] C179_0 := fun k st out h => by
  unfold C179_0 at h; split at h
  · rename_i x1 x7 x8 l0
    exact Lo.of (b := (if x8 < x7 then (if 0 ≤ x8 then (if x8 < (l0.length : Int) then (if x1 = l0.getD x8.toNat 0 then (some (o179 l0 x8)) else ((slices_Index_int_int.l0 k l0 x1 x7 (RowKit.wrap64 (x8 + 1))).bind fun r => some (o179 l0 r))) else none) else none) else (some (o179 l0 (-1))))) (by kernel_rfl) (by rw [slices_Index_int_int.l0]; exact lo_) _ h
  · cases h
theorem d179 : Sound Tryz.prog q179 := fn_d (O := O179) (cs := K179) nil_ mixed Tryz.func179 (cons_ (fun st => by show C179_0 0 st = none; unfold C179_0; split <;> rfl) nil_) (cons_ h179_0 nil_) fun k a h Z K z e => by
  unfold Q179 at e; split at e
  · rename_i a1 l0
    exact ent e (Lo.of (b := ((slices_Index_int_int.l0 k l0 a1 ((l0.length : Int)) 0).bind fun r => some (o179 l0 r))) (by kernel_rfl) (by unfold slices_Index_int_int.f; exact lo_))
  · cases e
def o158 (l0 : List Int) (r : Bool) : Out Rw := ⟨[.c (.sc (.b r))], [.rows 0 (.eI l0)]⟩
def Q158 : Mean Rw := fun k a h Z K => match a, h with
  | [.w (.c (.rw 0)), .w (.c (.sc (.i .i64 a1)))], [.rows 0 (.eI l0)] => (slices_Contains_int_int.f k l0 a1).bind fun r => K (o158 l0 r)
  | _, _ => none
def q158 : Cal Rw := ⟨158, false, Q158⟩
def O158 : List (Cal Rw) := [q179]
def K158 : List (Cut Rw) := []
theorem d158 : Sound Tryz.prog q158 := fn_d (O := O158) (cs := K158) (cons_ d179 nil_) mixed Tryz.func158 nil_ nil_ fun k a h Z K z e => by
  unfold Q158 at e; split at e
  · rename_i a1 l0
    exact ent e (Lo.of (b := ((slices_Index_int_int.f k l0 a1).bind fun r3 => (some (o158 l0 (decide (r3 ≥ 0)))))) (by kernel_rfl) (by unfold slices_Contains_int_int.f; exact lo_))
  · cases e
def o117 (l0 : List S106) (l1 : List S93) (l2 : List Int) (r : (List (S106)) × Int) : Out Rw := ⟨[.c (.rw 3), .c (.sc (.i .i64 r.2))], [.rows 0 (.e106 l0), .rows 0 (.e93 l1), .rows 0 (.eI l2), .rows 2 (.e106 r.1)]⟩
def Q117 : Mean Rw := fun k a h Z K => match a, h with
  | [.w (.c (.rw 0)), .w (.c (.rw 1)), .w (.c (.rw 2))], [.rows 0 (.e106 l0), .rows 0 (.e93 l1), .rows 0 (.eI l2)] => (impl_BalsPost.f k l0 l1 l2).bind fun r => K (o117 l0 l1 l2 r)
  | _, _ => none
def q117 : Cal Rw := ⟨117, false, Q117⟩
def O117 : List (Cal Rw) := [q91, q155, q99, q156, q139, q130, q157, q158]
def C117_0 : Nat → St Rw → Option (Out Rw) := fun k st => match st with
  | ⟨90, 3, 3, [(0, .w (.c (.rw 0))), (1, .w (.c (.rw 1))), (2, .w (.c (.rw 2))), (27, .w (.c (.sc (.b x27))))], [(0, .rows 0 (.e106 l0)), (1, .rows 0 (.e93 l1)), (2, .rows 0 (.eI l2))]⟩ => (impl_BalsPost.j0 k l0 l1 l2 x27).bind fun r => some (o117 l0 l1 l2 r)
  | _ => none
def C117_1 : Nat → St Rw → Option (Out Rw) := fun k st => match st with
  | ⟨90, 3, 5, [(1, .w (.c (.rw 1))), (2, .w (.c (.rw 2))), (8, .w (.c (.rw 3))), (9, .w (.c (.rw 4))), (36, .w (.c (.rw 1))), (37, .w (.c (.sc (.i .i64 x37)))), (38, .w (.c (.sc (.i .i64 x38))))], [(0, .rows 0 (.e106 l0)), (1, .rows 0 (.e93 l1)), (2, .rows 0 (.eI l2)), (3, .rows 2 (.e106 y3)), (4, .rows 2 (.e106 y4))]⟩ => (impl_BalsPost.l0 k l1 l2 y3 y4 l1 x37 x38).bind fun r => some (o117 l0 l1 l2 r)
  | _ => none
def C117_2 : Nat → St Rw → Option (Out Rw) := fun k st => match st with
  | ⟨90, 3, 5, [(2, .w (.c (.rw 2))), (8, .w (.c (.rw 3))), (9, .w (.c (.rw 4))), (63, .w (.c (.rw 1))), (64, .w (.c (.sc (.i .i64 x64)))), (65, .w (.c (.sc (.i .i64 x65))))], [(0, .rows 0 (.e106 l0)), (1, .rows 0 (.e93 l1)), (2, .rows 0 (.eI l2)), (3, .rows 2 (.e106 y3)), (4, .rows 2 (.e106 y4))]⟩ => (impl_BalsPost.l1 k l2 y3 y4 l1 x64 x65).bind fun r => some (o117 l0 l1 l2 r)
  | _ => none
def K117 : List (Cut Rw) := [⟨[true, false, true], [0, 1, 2, 27], C117_0⟩, ⟨[false, true, false, true, true, true, true, true], [1, 2, 8, 9, 36, 37, 38], C117_1⟩, ⟨[false, true, false, true, true, true, true, true, true], [2, 8, 9, 63, 64, 65], C117_2⟩]
theorem h117_0 : HH Tryz.prog O117 K117 Tryz.f117 [true, false, true] C117_0 := fun k st out h => by
  unfold C117_0 at h; split at h
  · rename_i x27 l0 l1 l2
    exact Lo.of (b := (if x27 = true then (some (o117 l0 l1 l2 ([], 1))) else ((impl_Bal_99.f l0).bind fun r5 => ((impl_LegsOk.f k l1).bind fun r6 => (if r6 = true then ((impl_Bal_99.f l0).bind fun r7 => ((impl_BalsPost.l0 k l1 l2 r5 r7 l1 ((l1.length : Int)) 0).bind fun r => some (o117 l0 l1 l2 r))) else (some (o117 l0 l1 l2 (r5, 2)))))))) (by kernel_rfl) (by rw [impl_BalsPost.j0]; exact lo_) _ h
  · cases h
theorem h117_1 : HH Tryz.prog O117 K117 Tryz.f117 [false, true, false, true, true, true, true, true] C117_1 := fun k st out h => by
  unfold C117_1 at h; split at h
  · rename_i x37 x38 l0 l1 l2 y3 y4
    exact Lo.of (b := (if x38 < x37 then (if 0 ≤ x38 then (if x38 < (l1.length : Int) then ((impl_balOf.f k y4 (rd_T93 l1 x38).f0 (rd_T93 l1 x38).f1).bind fun r8 => ((impl_AmountOk.f (RowKit.wrap64 (r8 + (rd_T93 l1 x38).f2))).bind fun r9 => (if r9 = true then ((impl_withBal.f k y4 (rd_T93 l1 x38).f0 (rd_T93 l1 x38).f1 (RowKit.wrap64 (r8 + (rd_T93 l1 x38).f2))).bind fun r10 => ((impl_BalsPost.l0 k l1 l2 y3 r10 l1 x37 (RowKit.wrap64 (x38 + 1))).bind fun r => some (o117 l0 l1 l2 r))) else (some (o117 l0 l1 l2 (y3, 4)))))) else none) else none) else ((impl_BalsPost.l1 k l2 y3 y4 l1 ((l1.length : Int)) 0).bind fun r => some (o117 l0 l1 l2 r)))) (by kernel_rfl) (by rw [impl_BalsPost.l0]; exact lo_) _ h
  · cases h
theorem h117_2 : HH Tryz.prog O117 K117 Tryz.f117 [false, true, false, true, true, true, true, true, true] C117_2 := fun k st out h => by
  unfold C117_2 at h; split at h
  · rename_i x64 x65 l0 l1 l2 y3 y4
    exact Lo.of (b := (if x65 < x64 then (if 0 ≤ x65 then (if x65 < (l1.length : Int) then ((slices_Contains_int_int.f k l2 (rd_T93 l1 x65).f0).bind fun r8 => (if r8 = true then ((impl_BalsPost.l1 k l2 y3 y4 l1 x64 (RowKit.wrap64 (x65 + 1))).bind fun r => some (o117 l0 l1 l2 r)) else ((impl_balOf.f k y4 (rd_T93 l1 x65).f0 (rd_T93 l1 x65).f1).bind fun r9 => (if r9 < 0 then (some (o117 l0 l1 l2 (y3, 3))) else ((impl_BalsPost.l1 k l2 y3 y4 l1 x64 (RowKit.wrap64 (x65 + 1))).bind fun r => some (o117 l0 l1 l2 r)))))) else none) else none) else (if (y4.length : Int) > 160 then (some (o117 l0 l1 l2 (y3, 5))) else (some (o117 l0 l1 l2 (y4, 0)))))) (by kernel_rfl) (by rw [impl_BalsPost.l1]; exact lo_) _ h
  · cases h
theorem d117 : Sound Tryz.prog q117 := fn_d (O := O117) (cs := K117) (cons_ d91 (cons_ d155 (cons_ d99 (cons_ d156 (cons_ d139 (cons_ d130 (cons_ d157 (cons_ d158 nil_)))))))) mixed Tryz.func117 (cons_ (fun st => by show C117_0 0 st = none; unfold C117_0; split <;> rfl) (cons_ (fun st => by show C117_1 0 st = none; unfold C117_1; split <;> rfl) (cons_ (fun st => by show C117_2 0 st = none; unfold C117_2; split <;> rfl) nil_))) (cons_ h117_0 (cons_ h117_1 (cons_ h117_2 nil_))) fun k a h Z K z e => by
  unfold Q117 at e; split at e
  · rename_i l0 l1 l2
    exact ent e (Lo.of (b := ((impl_BalsOk.f k l0).bind fun r4 => (if r4 = true then ((impl_legsForm.f l1).bind fun r5 => (if r5 = true then ((impl_BalsPost.j0 k l0 l1 l2 (decide ((l2.length : Int) > 20))).bind fun r => some (o117 l0 l1 l2 r)) else ((impl_BalsPost.j0 k l0 l1 l2 true).bind fun r => some (o117 l0 l1 l2 r)))) else ((impl_BalsPost.j0 k l0 l1 l2 true).bind fun r => some (o117 l0 l1 l2 r))))) (by kernel_rfl) (by unfold impl_BalsPost.f; exact lo_))
  · cases e
def o118 (r : Int) : Out Rw := ⟨[.c (.sc (.i .i64 r))], []⟩
def Q118 : Mean Rw := fun k a h Z K => match a, h with
  | [.w (.c (.sc (.i .i64 a0)))], [] => (impl_postCode.f a0).bind fun r => K (o118 r)
  | _, _ => none
def q118 : Cal Rw := ⟨118, false, Q118⟩
def O118 : List (Cal Rw) := []
def K118 : List (Cut Rw) := []
theorem d118 : Sound Tryz.prog q118 := fn_d (O := O118) (cs := K118) nil_ mixed Tryz.func118 nil_ nil_ fun k a h Z K z e => by
  unfold Q118 at e; split at e
  · rename_i a0
    exact ent e (Lo.of (b := (if a0 = 0 then (some (o118 0)) else (if a0 = 3 then (some (o118 5)) else (if a0 = 4 then (some (o118 8)) else (if a0 = 5 then (some (o118 7)) else (some (o118 1))))))) (by kernel_rfl) (by unfold impl_postCode.f; exact lo_))
  · cases e
def W72 (k : Nat) (d : Int) (l0 : List S80) (l1 : List S84) (l2 : List S106) (l3 : List S110) (l4 : List S60) (l5 : List S93) (Z : Type) (K : Out Rw → Option Z) : Option Z := ((impl_post.l0 k d l0 l1 l2 l3 l4 l5 ((l0.length : Int)) 0 ([])).bind fun r => (if r.1 = true then K ⟨[.c (.sc (.i .i64 r.2.2))], [.box 36 [.rw 1, .rw 2, .rw 7, .rw 4, .rw 5, .sc (.i .i64 d)], .rows 0 (.e80 l0), .rows 0 (.e84 l1), .rows 0 (.e106 l2), .rows 0 (.e110 l3), .rows 0 (.e60 l4), .rows 0 (.e93 l5), .rows 2 (.e106 r.2.1)]⟩ else K ⟨[.c (.sc (.i .i64 r.2.2))], [.box 36 [.rw 1, .rw 2, .rw 3, .rw 4, .rw 5, .sc (.i .i64 d)], .rows 0 (.e80 l0), .rows 0 (.e84 l1), .rows 0 (.e106 l2), .rows 0 (.e110 l3), .rows 0 (.e60 l4), .rows 0 (.e93 l5)]⟩))
def Q72 : Mean Rw := fun k a h Z K => match a, h with
  | [.pt 0 0, .w (.c (.rw 6))], [.box 36 [.rw 1, .rw 2, .rw 3, .rw 4, .rw 5, .sc (.i .i64 d)], .rows 0 (.e80 l0), .rows 0 (.e84 l1), .rows 0 (.e106 l2), .rows 0 (.e110 l3), .rows 0 (.e60 l4), .rows 0 (.e93 l5)] => W72 k d l0 l1 l2 l3 l4 l5 Z K
  | _, _ => none
def q72 : Cal Rw := ⟨72, false, Q72⟩
def O72 : List (Cal Rw) := [q117, q118]
def C72_0 : Nat → St Rw → Option (Out Rw) := fun k st => match st with
  | ⟨47, 7, 8, [(0, .pt 0 0), (1, .w (.c (.rw 6))), (5, .w (.c (.rw 7))), (14, .w (.c (.rw 1))), (15, .w (.c (.sc (.i .i64 x15)))), (16, .w (.c (.sc (.i .i64 x16))))], [(0, .box 36 [.rw 1, .rw 2, .rw 3, .rw 4, .rw 5, .sc (.i .i64 d)]), (1, .rows 0 (.e80 l0)), (2, .rows 0 (.e84 l1)), (3, .rows 0 (.e106 l2)), (4, .rows 0 (.e110 l3)), (5, .rows 0 (.e60 l4)), (6, .rows 0 (.e93 l5)), (7, .rows 2 (.eI y7))]⟩ => (impl_post.l0 k d l0 l1 l2 l3 l4 l5 x15 x16 y7).bind fun r => (if r.1 = true then some ⟨[.c (.sc (.i .i64 r.2.2))], [.box 36 [.rw 1, .rw 2, .rw 7, .rw 4, .rw 5, .sc (.i .i64 d)], .rows 0 (.e80 l0), .rows 0 (.e84 l1), .rows 0 (.e106 l2), .rows 0 (.e110 l3), .rows 0 (.e60 l4), .rows 0 (.e93 l5), .rows 2 (.e106 r.2.1)]⟩ else some ⟨[.c (.sc (.i .i64 r.2.2))], [.box 36 [.rw 1, .rw 2, .rw 3, .rw 4, .rw 5, .sc (.i .i64 d)], .rows 0 (.e80 l0), .rows 0 (.e84 l1), .rows 0 (.e106 l2), .rows 0 (.e110 l3), .rows 0 (.e60 l4), .rows 0 (.e93 l5)]⟩)
  | _ => none
def K72 : List (Cut Rw) := [⟨[false, true, false, true, true], [0, 1, 5, 14, 15, 16], C72_0⟩]
theorem h72_0 (k : Nat) (st : St Rw) (out : Out Rw) (h : C72_0 (k + 1) st = some out) : sg Tryz.prog O72 K72 Tryz.f72 k [false, true, false, true, true] st = some out := by
  unfold C72_0 at h; split at h
  · rename_i x15 x16 d l0 l1 l2 l3 l4 l5 y7
    exact Lo.of (b := (if x16 < x15 then (if 0 ≤ x16 then (if x16 < (l0.length : Int) then (if (rd_T80 l0 x16).f1 = 1 then ((impl_post.l0 k d l0 l1 l2 l3 l4 l5 x15 (RowKit.wrap64 (x16 + 1)) y7).bind fun r => (if r.1 = true then some ⟨[.c (.sc (.i .i64 r.2.2))], [.box 36 [.rw 1, .rw 2, .rw 7, .rw 4, .rw 5, .sc (.i .i64 d)], .rows 0 (.e80 l0), .rows 0 (.e84 l1), .rows 0 (.e106 l2), .rows 0 (.e110 l3), .rows 0 (.e60 l4), .rows 0 (.e93 l5), .rows 2 (.e106 r.2.1)]⟩ else some ⟨[.c (.sc (.i .i64 r.2.2))], [.box 36 [.rw 1, .rw 2, .rw 3, .rw 4, .rw 5, .sc (.i .i64 d)], .rows 0 (.e80 l0), .rows 0 (.e84 l1), .rows 0 (.e106 l2), .rows 0 (.e110 l3), .rows 0 (.e60 l4), .rows 0 (.e93 l5)]⟩)) else (if y7.length + 1 < 17592186044417 then ((impl_post.l0 k d l0 l1 l2 l3 l4 l5 x15 (RowKit.wrap64 (x16 + 1)) (y7 ++ ([(rd_T80 l0 x16).f0]))).bind fun r => (if r.1 = true then some ⟨[.c (.sc (.i .i64 r.2.2))], [.box 36 [.rw 1, .rw 2, .rw 7, .rw 4, .rw 5, .sc (.i .i64 d)], .rows 0 (.e80 l0), .rows 0 (.e84 l1), .rows 0 (.e106 l2), .rows 0 (.e110 l3), .rows 0 (.e60 l4), .rows 0 (.e93 l5), .rows 2 (.e106 r.2.1)]⟩ else some ⟨[.c (.sc (.i .i64 r.2.2))], [.box 36 [.rw 1, .rw 2, .rw 3, .rw 4, .rw 5, .sc (.i .i64 d)], .rows 0 (.e80 l0), .rows 0 (.e84 l1), .rows 0 (.e106 l2), .rows 0 (.e110 l3), .rows 0 (.e60 l4), .rows 0 (.e93 l5)]⟩)) else none)) else none) else none) else ((impl_BalsPost.f k l2 l5 y7).bind fun r11 => (if r11.2 = 0 then ((impl_postCode.f r11.2).bind fun r12 => (some ⟨[.c (.sc (.i .i64 r12))], [.box 36 [.rw 1, .rw 2, .rw 7, .rw 4, .rw 5, .sc (.i .i64 d)], .rows 0 (.e80 l0), .rows 0 (.e84 l1), .rows 0 (.e106 l2), .rows 0 (.e110 l3), .rows 0 (.e60 l4), .rows 0 (.e93 l5), .rows 2 (.e106 r11.1)]⟩)) else ((impl_postCode.f r11.2).bind fun r12 => (some ⟨[.c (.sc (.i .i64 r12))], [.box 36 [.rw 1, .rw 2, .rw 3, .rw 4, .rw 5, .sc (.i .i64 d)], .rows 0 (.e80 l0), .rows 0 (.e84 l1), .rows 0 (.e106 l2), .rows 0 (.e110 l3), .rows 0 (.e60 l4), .rows 0 (.e93 l5)]⟩)))))) (by kernel_rfl) (by rw [impl_post.l0]; exact lo_) _ h
  · cases h
theorem d72 : Sound Tryz.prog q72 := fn_d (O := O72) (cs := K72) (cons_ d117 (cons_ d118 nil_)) mixed Tryz.func72 (cons_ (fun st => by show C72_0 0 st = none; unfold C72_0; split <;> rfl) nil_) (cons_ h72_0 nil_) fun k a h Z K z e => by
  unfold Q72 at e; split at e
  · rename_i d l0 l1 l2 l3 l4 l5
    exact tk_ (x := W72 k d l0 l1 l2 l3 l4 l5 _ some) e (by kernel_rfl) (by unfold W72; exact tkw_)
  · cases e
def W73 (k : Nat) (d : Int) (l0 : List S80) (l1 : List S84) (l2 : List S106) (l3 : List S110) (l4 : List S60) (a1 : Int) (a2 : Int) (a3 : Int) (a4 : Int) (Z : Type) (K : Out Rw → Option Z) : Option Z := (if d ≥ 1000000000 then (K ⟨[.c (.sc (.i .i64 7))], [.box 36 [.rw 1, .rw 2, .rw 3, .rw 4, .rw 5, .sc (.i .i64 d)], .rows 0 (.e80 l0), .rows 0 (.e84 l1), .rows 0 (.e106 l2), .rows 0 (.e110 l3), .rows 0 (.e60 l4)]⟩) else ((impl_LotOpen.f k l3 a1 a2 (RowKit.wrap64 (d + 1)) a3 a4).bind fun r11 => (if r11.2 = 0 then (K ⟨[.c (.sc (.i .i64 0))], [.box 36 [.rw 1, .rw 2, .rw 3, .rw 6, .rw 5, .sc (.i .i64 (RowKit.wrap64 (d + 1)))], .rows 0 (.e80 l0), .rows 0 (.e84 l1), .rows 0 (.e106 l2), .rows 0 (.e110 l3), .rows 0 (.e60 l4), .rows 2 (.e110 r11.1)]⟩) else (K ⟨[.c (.sc (.i .i64 7))], [.box 36 [.rw 1, .rw 2, .rw 3, .rw 4, .rw 5, .sc (.i .i64 d)], .rows 0 (.e80 l0), .rows 0 (.e84 l1), .rows 0 (.e106 l2), .rows 0 (.e110 l3), .rows 0 (.e60 l4)]⟩))))
def Q73 : Mean Rw := fun k a h Z K => match a, h with
  | [.pt 0 0, .w (.c (.sc (.i .i64 a1))), .w (.c (.sc (.i .i64 a2))), .w (.c (.sc (.i .i64 a3))), .w (.c (.sc (.i .i64 a4)))], [.box 36 [.rw 1, .rw 2, .rw 3, .rw 4, .rw 5, .sc (.i .i64 d)], .rows 0 (.e80 l0), .rows 0 (.e84 l1), .rows 0 (.e106 l2), .rows 0 (.e110 l3), .rows 0 (.e60 l4)] => W73 k d l0 l1 l2 l3 l4 a1 a2 a3 a4 Z K
  | _, _ => none
def q73 : Cal Rw := ⟨73, false, Q73⟩
def O73 : List (Cal Rw) := [q119]
theorem d73 : Sound Tryz.prog q73 := fn_d (O := O73) (cs := []) (cons_ d119 nil_) mixed Tryz.func73 nil_ nil_ fun k a h Z K z e => by
  unfold Q73 at e; split at e
  · rename_i a1 a2 a3 a4 d l0 l1 l2 l3 l4
    exact tk_ (x := W73 k d l0 l1 l2 l3 l4 a1 a2 a3 a4 _ some) e (by kernel_rfl) (by unfold W73; exact tkw_)
  · cases e
end
end Go.Proofs.YtmfgajbkcnlkcaaGreat.AI
namespace Go.Proofs.YtmfgajbkcnlkcaaGreat.AI
open Go Go.RowKit Go.Proofs.YtmfgajbkcnlkcaaGreatW.PrintWords Go.Proofs.YtmfgajbkcnlkcaaGreat.P
set_option linter.unusedVariables false
set_option linter.all false
set_option maxRecDepth 100000
set_option maxHeartbeats 4000000
noncomputable section
def o20 (l0_0 : List S80) (l0_1 : List S84) (l0_2 : List S106) (l0_3 : List S110) (l0_4 : List S60) (r : (List (S80)) × (List (S84)) × (List (S106)) × (List (S110)) × (List (S60)) × Int × Int) : Out Rw := ⟨[.ag [.rw 5, .rw 6, .rw 7, .rw 8, .rw 9, .sc (.i .i64 r.2.2.2.2.2.1)], .c (.sc (.i .i64 r.2.2.2.2.2.2))], [.rows 0 (.e80 l0_0), .rows 0 (.e84 l0_1), .rows 0 (.e106 l0_2), .rows 0 (.e110 l0_3), .rows 0 (.e60 l0_4), .rows 2 (.e80 r.1), .rows 2 (.e84 r.2.1), .rows 2 (.e106 r.2.2.1), .rows 2 (.e110 r.2.2.2.1), .rows 2 (.e60 r.2.2.2.2.1)]⟩
def Q20 : Mean Rw := fun k a h Z K => match a, h with
  | [.w (.ag [.rw 0, .rw 1, .rw 2, .rw 3, .rw 4, .sc (.i .i64 a0_5)]), .w (.c (.sc (.i .i64 a1))), .w (.c (.sc (.i .i64 a2))), .w (.c (.sc (.i .i64 a3))), .w (.c (.sc (.i .i64 a4))), .w (.c (.sc (.i .i64 a5)))], [.rows 0 (.e80 l0_0), .rows 0 (.e84 l0_1), .rows 0 (.e106 l0_2), .rows 0 (.e110 l0_3), .rows 0 (.e60 l0_4)] => (impl_BookIssue.f k l0_0 l0_1 l0_2 l0_3 l0_4 a0_5 a1 a2 a3 a4 a5).bind fun r => K (o20 l0_0 l0_1 l0_2 l0_3 l0_4 r)
  | _, _ => none
def q20 : Cal Rw := ⟨20, false, Q20⟩
def O20 : List (Cal Rw) := [q37, q70, q59, q39, q60, q64, q71, q72, q73]
def K20 : List (Cut Rw) := []
theorem d20 : Sound Tryz.prog q20 := fn_d (O := O20) (cs := K20) (cons_ d37 (cons_ d70 (cons_ d59 (cons_ d39 (cons_ d60 (cons_ d64 (cons_ d71 (cons_ d72 (cons_ d73 nil_))))))))) mixed Tryz.func20 nil_ nil_ fun k a h Z K z e => by
  unfold Q20 at e; split at e
  · rename_i a0_5 a1 a2 a3 a4 a5 l0_0 l0_1 l0_2 l0_3 l0_4
    exact ent e (Lo.of (b := ((impl_BooksOk.f k l0_0 l0_1 l0_2 l0_3 l0_4 a0_5).bind fun r12 => (if r12 = true then ((impl_nosOk.f ([a1] ++ [a2] ++ [a3])).bind fun r13 => (if r13 = true then ((impl_in.f a4 1 1000000000000000).bind fun r14 => (if r14 = true then ((impl_in.f a5 0 1000000000000000).bind fun r15 => (if r15 = true then ((impl_cloneBooks.f l0_0 l0_1 l0_2 l0_3 l0_4 a0_5).bind fun r16 => ((impl_accountKind.f k r16.1 a1).bind fun r817 => (if r817 = 0 then (some (o20 l0_0 l0_1 l0_2 l0_3 l0_4 (r16.1, r16.2.1, r16.2.2.1, r16.2.2.2.1, r16.2.2.2.2.1, r16.2.2.2.2.2, 3))) else ((impl_accountKind.f k r16.1 a2).bind fun r818 => (if r818 = 0 then (some (o20 l0_0 l0_1 l0_2 l0_3 l0_4 (r16.1, r16.2.1, r16.2.2.1, r16.2.2.2.1, r16.2.2.2.2.1, r16.2.2.2.2.2, 3))) else ((impl_instrKind.f k r16.2.1 a3).bind fun r819 => (if (!decide (r819 = 0)) = true then ((impl_accountKind.f k r16.1 a1).bind fun r820 => (if r820 = 2 then ((impl_accountKind.f k r16.1 a2).bind fun r821 => (if r821 = 1 then (if a5 = 0 then ((impl_post.l0 k r16.2.2.2.2.2 r16.1 r16.2.1 r16.2.2.1 r16.2.2.2.1 r16.2.2.2.2.1 ([(⟨a1, a3, RowKit.wrap64 (0 - a4)⟩ : S93)] ++ [(⟨a2, a3, a4⟩ : S93)]) ((r16.1.length : Int)) 0 []).bind fun r22 => (if r22.1 = true then (if r22.2.2 = 0 then ((impl_instrKind.f k r16.2.1 a3).bind fun r823 => (if r823 = 2 then (if r16.2.2.2.2.2 ≥ 1000000000 then (if 7 = 0 then (some (o20 l0_0 l0_1 l0_2 l0_3 l0_4 (r16.1, r16.2.1, r22.2.1, r16.2.2.2.1, r16.2.2.2.2.1, r16.2.2.2.2.2, 0))) else ((impl_cloneBooks.f l0_0 l0_1 l0_2 l0_3 l0_4 a0_5).bind fun r24 => (some (o20 l0_0 l0_1 l0_2 l0_3 l0_4 (r24.1, r24.2.1, r24.2.2.1, r24.2.2.2.1, r24.2.2.2.2.1, r24.2.2.2.2.2, 7))))) else ((impl_LotOpen.f k r16.2.2.2.1 a2 a3 (RowKit.wrap64 (r16.2.2.2.2.2 + 1)) a4 a5).bind fun r1124 => (if r1124.2 = 0 then (if 0 = 0 then (some (o20 l0_0 l0_1 l0_2 l0_3 l0_4 (r16.1, r16.2.1, r22.2.1, r1124.1, r16.2.2.2.2.1, RowKit.wrap64 (r16.2.2.2.2.2 + 1), 0))) else ((impl_cloneBooks.f l0_0 l0_1 l0_2 l0_3 l0_4 a0_5).bind fun r25 => (some (o20 l0_0 l0_1 l0_2 l0_3 l0_4 (r25.1, r25.2.1, r25.2.2.1, r25.2.2.2.1, r25.2.2.2.2.1, r25.2.2.2.2.2, 0))))) else (if 7 = 0 then (some (o20 l0_0 l0_1 l0_2 l0_3 l0_4 (r16.1, r16.2.1, r22.2.1, r16.2.2.2.1, r16.2.2.2.2.1, r16.2.2.2.2.2, 0))) else ((impl_cloneBooks.f l0_0 l0_1 l0_2 l0_3 l0_4 a0_5).bind fun r25 => (some (o20 l0_0 l0_1 l0_2 l0_3 l0_4 (r25.1, r25.2.1, r25.2.2.1, r25.2.2.2.1, r25.2.2.2.2.1, r25.2.2.2.2.2, 7)))))))) else (if r22.2.2 = 0 then (some (o20 l0_0 l0_1 l0_2 l0_3 l0_4 (r16.1, r16.2.1, r22.2.1, r16.2.2.2.1, r16.2.2.2.2.1, r16.2.2.2.2.2, 0))) else ((impl_cloneBooks.f l0_0 l0_1 l0_2 l0_3 l0_4 a0_5).bind fun r24 => (some (o20 l0_0 l0_1 l0_2 l0_3 l0_4 (r24.1, r24.2.1, r24.2.2.1, r24.2.2.2.1, r24.2.2.2.2.1, r24.2.2.2.2.2, r22.2.2))))))) else (if r22.2.2 = 0 then (some (o20 l0_0 l0_1 l0_2 l0_3 l0_4 (r16.1, r16.2.1, r22.2.1, r16.2.2.2.1, r16.2.2.2.2.1, r16.2.2.2.2.2, 0))) else ((impl_cloneBooks.f l0_0 l0_1 l0_2 l0_3 l0_4 a0_5).bind fun r23 => (some (o20 l0_0 l0_1 l0_2 l0_3 l0_4 (r23.1, r23.2.1, r23.2.2.1, r23.2.2.2.1, r23.2.2.2.2.1, r23.2.2.2.2.2, r22.2.2)))))) else (if r22.2.2 = 0 then ((impl_instrKind.f k r16.2.1 a3).bind fun r823 => (if r823 = 2 then (if r16.2.2.2.2.2 ≥ 1000000000 then (if 7 = 0 then (some (o20 l0_0 l0_1 l0_2 l0_3 l0_4 (r16.1, r16.2.1, r16.2.2.1, r16.2.2.2.1, r16.2.2.2.2.1, r16.2.2.2.2.2, 0))) else ((impl_cloneBooks.f l0_0 l0_1 l0_2 l0_3 l0_4 a0_5).bind fun r24 => (some (o20 l0_0 l0_1 l0_2 l0_3 l0_4 (r24.1, r24.2.1, r24.2.2.1, r24.2.2.2.1, r24.2.2.2.2.1, r24.2.2.2.2.2, 7))))) else ((impl_LotOpen.f k r16.2.2.2.1 a2 a3 (RowKit.wrap64 (r16.2.2.2.2.2 + 1)) a4 a5).bind fun r1124 => (if r1124.2 = 0 then (if 0 = 0 then (some (o20 l0_0 l0_1 l0_2 l0_3 l0_4 (r16.1, r16.2.1, r16.2.2.1, r1124.1, r16.2.2.2.2.1, RowKit.wrap64 (r16.2.2.2.2.2 + 1), 0))) else ((impl_cloneBooks.f l0_0 l0_1 l0_2 l0_3 l0_4 a0_5).bind fun r25 => (some (o20 l0_0 l0_1 l0_2 l0_3 l0_4 (r25.1, r25.2.1, r25.2.2.1, r25.2.2.2.1, r25.2.2.2.2.1, r25.2.2.2.2.2, 0))))) else (if 7 = 0 then (some (o20 l0_0 l0_1 l0_2 l0_3 l0_4 (r16.1, r16.2.1, r16.2.2.1, r16.2.2.2.1, r16.2.2.2.2.1, r16.2.2.2.2.2, 0))) else ((impl_cloneBooks.f l0_0 l0_1 l0_2 l0_3 l0_4 a0_5).bind fun r25 => (some (o20 l0_0 l0_1 l0_2 l0_3 l0_4 (r25.1, r25.2.1, r25.2.2.1, r25.2.2.2.1, r25.2.2.2.2.1, r25.2.2.2.2.2, 7)))))))) else (if r22.2.2 = 0 then (some (o20 l0_0 l0_1 l0_2 l0_3 l0_4 (r16.1, r16.2.1, r16.2.2.1, r16.2.2.2.1, r16.2.2.2.2.1, r16.2.2.2.2.2, 0))) else ((impl_cloneBooks.f l0_0 l0_1 l0_2 l0_3 l0_4 a0_5).bind fun r24 => (some (o20 l0_0 l0_1 l0_2 l0_3 l0_4 (r24.1, r24.2.1, r24.2.2.1, r24.2.2.2.1, r24.2.2.2.2.1, r24.2.2.2.2.2, r22.2.2))))))) else (if r22.2.2 = 0 then (some (o20 l0_0 l0_1 l0_2 l0_3 l0_4 (r16.1, r16.2.1, r16.2.2.1, r16.2.2.2.1, r16.2.2.2.2.1, r16.2.2.2.2.2, 0))) else ((impl_cloneBooks.f l0_0 l0_1 l0_2 l0_3 l0_4 a0_5).bind fun r23 => (some (o20 l0_0 l0_1 l0_2 l0_3 l0_4 (r23.1, r23.2.1, r23.2.2.1, r23.2.2.2.1, r23.2.2.2.2.1, r23.2.2.2.2.2, r22.2.2)))))))) else ((impl_instrKind.f k r16.2.1 a3).bind fun r822 => (if r822 = 1 then (some (o20 l0_0 l0_1 l0_2 l0_3 l0_4 (r16.1, r16.2.1, r16.2.2.1, r16.2.2.2.1, r16.2.2.2.2.1, r16.2.2.2.2.2, 4))) else ((impl_post.l0 k r16.2.2.2.2.2 r16.1 r16.2.1 r16.2.2.1 r16.2.2.2.1 r16.2.2.2.2.1 ([(⟨a1, a3, RowKit.wrap64 (0 - a4)⟩ : S93)] ++ [(⟨a2, a3, a4⟩ : S93)]) ((r16.1.length : Int)) 0 []).bind fun r23 => (if r23.1 = true then (if r23.2.2 = 0 then ((impl_instrKind.f k r16.2.1 a3).bind fun r824 => (if r824 = 2 then (if r16.2.2.2.2.2 ≥ 1000000000 then (if 7 = 0 then (some (o20 l0_0 l0_1 l0_2 l0_3 l0_4 (r16.1, r16.2.1, r23.2.1, r16.2.2.2.1, r16.2.2.2.2.1, r16.2.2.2.2.2, 0))) else ((impl_cloneBooks.f l0_0 l0_1 l0_2 l0_3 l0_4 a0_5).bind fun r25 => (some (o20 l0_0 l0_1 l0_2 l0_3 l0_4 (r25.1, r25.2.1, r25.2.2.1, r25.2.2.2.1, r25.2.2.2.2.1, r25.2.2.2.2.2, 7))))) else ((impl_LotOpen.f k r16.2.2.2.1 a2 a3 (RowKit.wrap64 (r16.2.2.2.2.2 + 1)) a4 a5).bind fun r1125 => (if r1125.2 = 0 then (if 0 = 0 then (some (o20 l0_0 l0_1 l0_2 l0_3 l0_4 (r16.1, r16.2.1, r23.2.1, r1125.1, r16.2.2.2.2.1, RowKit.wrap64 (r16.2.2.2.2.2 + 1), 0))) else ((impl_cloneBooks.f l0_0 l0_1 l0_2 l0_3 l0_4 a0_5).bind fun r26 => (some (o20 l0_0 l0_1 l0_2 l0_3 l0_4 (r26.1, r26.2.1, r26.2.2.1, r26.2.2.2.1, r26.2.2.2.2.1, r26.2.2.2.2.2, 0))))) else (if 7 = 0 then (some (o20 l0_0 l0_1 l0_2 l0_3 l0_4 (r16.1, r16.2.1, r23.2.1, r16.2.2.2.1, r16.2.2.2.2.1, r16.2.2.2.2.2, 0))) else ((impl_cloneBooks.f l0_0 l0_1 l0_2 l0_3 l0_4 a0_5).bind fun r26 => (some (o20 l0_0 l0_1 l0_2 l0_3 l0_4 (r26.1, r26.2.1, r26.2.2.1, r26.2.2.2.1, r26.2.2.2.2.1, r26.2.2.2.2.2, 7)))))))) else (if r23.2.2 = 0 then (some (o20 l0_0 l0_1 l0_2 l0_3 l0_4 (r16.1, r16.2.1, r23.2.1, r16.2.2.2.1, r16.2.2.2.2.1, r16.2.2.2.2.2, 0))) else ((impl_cloneBooks.f l0_0 l0_1 l0_2 l0_3 l0_4 a0_5).bind fun r25 => (some (o20 l0_0 l0_1 l0_2 l0_3 l0_4 (r25.1, r25.2.1, r25.2.2.1, r25.2.2.2.1, r25.2.2.2.2.1, r25.2.2.2.2.2, r23.2.2))))))) else (if r23.2.2 = 0 then (some (o20 l0_0 l0_1 l0_2 l0_3 l0_4 (r16.1, r16.2.1, r23.2.1, r16.2.2.2.1, r16.2.2.2.2.1, r16.2.2.2.2.2, 0))) else ((impl_cloneBooks.f l0_0 l0_1 l0_2 l0_3 l0_4 a0_5).bind fun r24 => (some (o20 l0_0 l0_1 l0_2 l0_3 l0_4 (r24.1, r24.2.1, r24.2.2.1, r24.2.2.2.1, r24.2.2.2.2.1, r24.2.2.2.2.2, r23.2.2)))))) else (if r23.2.2 = 0 then ((impl_instrKind.f k r16.2.1 a3).bind fun r824 => (if r824 = 2 then (if r16.2.2.2.2.2 ≥ 1000000000 then (if 7 = 0 then (some (o20 l0_0 l0_1 l0_2 l0_3 l0_4 (r16.1, r16.2.1, r16.2.2.1, r16.2.2.2.1, r16.2.2.2.2.1, r16.2.2.2.2.2, 0))) else ((impl_cloneBooks.f l0_0 l0_1 l0_2 l0_3 l0_4 a0_5).bind fun r25 => (some (o20 l0_0 l0_1 l0_2 l0_3 l0_4 (r25.1, r25.2.1, r25.2.2.1, r25.2.2.2.1, r25.2.2.2.2.1, r25.2.2.2.2.2, 7))))) else ((impl_LotOpen.f k r16.2.2.2.1 a2 a3 (RowKit.wrap64 (r16.2.2.2.2.2 + 1)) a4 a5).bind fun r1125 => (if r1125.2 = 0 then (if 0 = 0 then (some (o20 l0_0 l0_1 l0_2 l0_3 l0_4 (r16.1, r16.2.1, r16.2.2.1, r1125.1, r16.2.2.2.2.1, RowKit.wrap64 (r16.2.2.2.2.2 + 1), 0))) else ((impl_cloneBooks.f l0_0 l0_1 l0_2 l0_3 l0_4 a0_5).bind fun r26 => (some (o20 l0_0 l0_1 l0_2 l0_3 l0_4 (r26.1, r26.2.1, r26.2.2.1, r26.2.2.2.1, r26.2.2.2.2.1, r26.2.2.2.2.2, 0))))) else (if 7 = 0 then (some (o20 l0_0 l0_1 l0_2 l0_3 l0_4 (r16.1, r16.2.1, r16.2.2.1, r16.2.2.2.1, r16.2.2.2.2.1, r16.2.2.2.2.2, 0))) else ((impl_cloneBooks.f l0_0 l0_1 l0_2 l0_3 l0_4 a0_5).bind fun r26 => (some (o20 l0_0 l0_1 l0_2 l0_3 l0_4 (r26.1, r26.2.1, r26.2.2.1, r26.2.2.2.1, r26.2.2.2.2.1, r26.2.2.2.2.2, 7)))))))) else (if r23.2.2 = 0 then (some (o20 l0_0 l0_1 l0_2 l0_3 l0_4 (r16.1, r16.2.1, r16.2.2.1, r16.2.2.2.1, r16.2.2.2.2.1, r16.2.2.2.2.2, 0))) else ((impl_cloneBooks.f l0_0 l0_1 l0_2 l0_3 l0_4 a0_5).bind fun r25 => (some (o20 l0_0 l0_1 l0_2 l0_3 l0_4 (r25.1, r25.2.1, r25.2.2.1, r25.2.2.2.1, r25.2.2.2.2.1, r25.2.2.2.2.2, r23.2.2))))))) else (if r23.2.2 = 0 then (some (o20 l0_0 l0_1 l0_2 l0_3 l0_4 (r16.1, r16.2.1, r16.2.2.1, r16.2.2.2.1, r16.2.2.2.2.1, r16.2.2.2.2.2, 0))) else ((impl_cloneBooks.f l0_0 l0_1 l0_2 l0_3 l0_4 a0_5).bind fun r24 => (some (o20 l0_0 l0_1 l0_2 l0_3 l0_4 (r24.1, r24.2.1, r24.2.2.1, r24.2.2.2.1, r24.2.2.2.2.1, r24.2.2.2.2.2, r23.2.2))))))))))) else (some (o20 l0_0 l0_1 l0_2 l0_3 l0_4 (r16.1, r16.2.1, r16.2.2.1, r16.2.2.2.1, r16.2.2.2.2.1, r16.2.2.2.2.2, 4))))) else (some (o20 l0_0 l0_1 l0_2 l0_3 l0_4 (r16.1, r16.2.1, r16.2.2.1, r16.2.2.2.1, r16.2.2.2.2.1, r16.2.2.2.2.2, 4))))) else (some (o20 l0_0 l0_1 l0_2 l0_3 l0_4 (r16.1, r16.2.1, r16.2.2.1, r16.2.2.2.1, r16.2.2.2.2.1, r16.2.2.2.2.2, 3)))))))))) else (some (o20 l0_0 l0_1 l0_2 l0_3 l0_4 ([], [], [], [], [], 0, 1))))) else (some (o20 l0_0 l0_1 l0_2 l0_3 l0_4 ([], [], [], [], [], 0, 1))))) else (some (o20 l0_0 l0_1 l0_2 l0_3 l0_4 ([], [], [], [], [], 0, 1))))) else (some (o20 l0_0 l0_1 l0_2 l0_3 l0_4 ([], [], [], [], [], 0, 1)))))) (by kernel_rfl) (by unfold impl_BookIssue.f; exact lon_))
  · cases e
def o103 (r : Bool) : Out Rw := ⟨[.c (.sc (.b r))], []⟩
def Q103 : Mean Rw := fun k a h Z K => match a, h with
  | [.w (.ag [.sc (.i .i64 a0_0), .sc (.i .i64 a0_1)]), .w (.ag [.sc (.i .i64 a1_0), .sc (.i .i64 a1_1)])], [] => (laws_eqAccount.f a0_0 a0_1 a1_0 a1_1).bind fun r => K (o103 r)
  | _, _ => none
def q103 : Cal Rw := ⟨103, false, Q103⟩
def O103 : List (Cal Rw) := []
def K103 : List (Cut Rw) := []
theorem d103 : Sound Tryz.prog q103 := fn_d (O := O103) (cs := K103) nil_ mixed Tryz.func103 nil_ nil_ fun k a h Z K z e => by
  unfold Q103 at e; split at e
  · rename_i a0_0 a0_1 a1_0 a1_1
    exact ent e (Lo.of (b := (if a0_0 = a1_0 then (if a0_1 = a1_1 then (some (o103 true)) else (some (o103 false))) else (some (o103 false)))) (by kernel_rfl) (by unfold laws_eqAccount.f; exact lo_))
  · cases e
def o41 (l0 : List S80) (l1 : List S80) (r : Bool) : Out Rw := ⟨[.c (.sc (.b r))], [.rows 0 (.e80 l0), .rows 0 (.e80 l1)]⟩
def Q41 : Mean Rw := fun k a h Z K => match a, h with
  | [.w (.c (.rw 0)), .w (.c (.rw 1))], [.rows 0 (.e80 l0), .rows 0 (.e80 l1)] => (laws_eqAccountS.f k l0 l1).bind fun r => K (o41 l0 l1 r)
  | _, _ => none
def q41 : Cal Rw := ⟨41, false, Q41⟩
def O41 : List (Cal Rw) := [q103]
def C41_0 : Nat → St Rw → Option (Out Rw) := fun k st => match st with
  | ⟨27, 2, 2, [(0, .w (.c (.rw 0))), (1, .w (.c (.rw 1))), (5, .w (.c (.sc (.i .i64 x5))))], [(0, .rows 0 (.e80 l0)), (1, .rows 0 (.e80 l1))]⟩ => (laws_eqAccountS.l0 k l0 l1 x5).bind fun r => some (o41 l0 l1 r)
  | _ => none
def K41 : List (Cut Rw) := [⟨[false, true, false, true, true], [0, 1, 5], C41_0⟩]
theorem h41_0 : HH Tryz.prog O41 K41 Tryz.f41 [false, true, false, true, true] C41_0 := fun k st out h => by
  unfold C41_0 at h; split at h
  · rename_i x5 l0 l1
    exact Lo.of (b := (if x5 < (l0.length : Int) then (if 0 ≤ x5 then (if x5 < (l0.length : Int) then (if 0 ≤ x5 then (if x5 < (l1.length : Int) then ((laws_eqAccount.f (rd_T80 l0 x5).f0 (rd_T80 l0 x5).f1 (rd_T80 l1 x5).f0 (rd_T80 l1 x5).f1).bind fun r4 => (if r4 = true then ((laws_eqAccountS.l0 k l0 l1 (RowKit.wrap64 (x5 + 1))).bind fun r => some (o41 l0 l1 r)) else (some (o41 l0 l1 false)))) else none) else none) else none) else none) else (some (o41 l0 l1 true)))) (by kernel_rfl) (by rw [laws_eqAccountS.l0]; exact lo_) _ h
  · cases h
theorem d41 : Sound Tryz.prog q41 := fn_d (O := O41) (cs := K41) (cons_ d103 nil_) mixed Tryz.func41 (cons_ (fun st => by show C41_0 0 st = none; unfold C41_0; split <;> rfl) nil_) (cons_ h41_0 nil_) fun k a h Z K z e => by
  unfold Q41 at e; split at e
  · rename_i l0 l1
    exact ent e (Lo.of (b := (if (l0.length : Int) = (l1.length : Int) then ((laws_eqAccountS.l0 k l0 l1 0).bind fun r => some (o41 l0 l1 r)) else (some (o41 l0 l1 false)))) (by kernel_rfl) (by unfold laws_eqAccountS.f; exact lo_))
  · cases e
def o104 (r : Bool) : Out Rw := ⟨[.c (.sc (.b r))], []⟩
def Q104 : Mean Rw := fun k a h Z K => match a, h with
  | [.w (.ag [.sc (.i .i64 a0_0), .sc (.i .i64 a0_1)]), .w (.ag [.sc (.i .i64 a1_0), .sc (.i .i64 a1_1)])], [] => (laws_eqInstr.f a0_0 a0_1 a1_0 a1_1).bind fun r => K (o104 r)
  | _, _ => none
def q104 : Cal Rw := ⟨104, false, Q104⟩
def O104 : List (Cal Rw) := []
def K104 : List (Cut Rw) := []
theorem d104 : Sound Tryz.prog q104 := fn_d (O := O104) (cs := K104) nil_ mixed Tryz.func104 nil_ nil_ fun k a h Z K z e => by
  unfold Q104 at e; split at e
  · rename_i a0_0 a0_1 a1_0 a1_1
    exact ent e (Lo.of (b := (if a0_0 = a1_0 then (if a0_1 = a1_1 then (some (o104 true)) else (some (o104 false))) else (some (o104 false)))) (by kernel_rfl) (by unfold laws_eqInstr.f; exact lo_))
  · cases e
def o42 (l0 : List S84) (l1 : List S84) (r : Bool) : Out Rw := ⟨[.c (.sc (.b r))], [.rows 0 (.e84 l0), .rows 0 (.e84 l1)]⟩
def Q42 : Mean Rw := fun k a h Z K => match a, h with
  | [.w (.c (.rw 0)), .w (.c (.rw 1))], [.rows 0 (.e84 l0), .rows 0 (.e84 l1)] => (laws_eqInstrS.f k l0 l1).bind fun r => K (o42 l0 l1 r)
  | _, _ => none
def q42 : Cal Rw := ⟨42, false, Q42⟩
def O42 : List (Cal Rw) := [q104]
def C42_0 : Nat → St Rw → Option (Out Rw) := fun k st => match st with
  | ⟨27, 2, 2, [(0, .w (.c (.rw 0))), (1, .w (.c (.rw 1))), (5, .w (.c (.sc (.i .i64 x5))))], [(0, .rows 0 (.e84 l0)), (1, .rows 0 (.e84 l1))]⟩ => (laws_eqInstrS.l0 k l0 l1 x5).bind fun r => some (o42 l0 l1 r)
  | _ => none
def K42 : List (Cut Rw) := [⟨[false, true, false, true, true], [0, 1, 5], C42_0⟩]
theorem h42_0 : HH Tryz.prog O42 K42 Tryz.f42 [false, true, false, true, true] C42_0 := fun k st out h => by
  unfold C42_0 at h; split at h
  · rename_i x5 l0 l1
    exact Lo.of (b := (if x5 < (l0.length : Int) then (if 0 ≤ x5 then (if x5 < (l0.length : Int) then (if 0 ≤ x5 then (if x5 < (l1.length : Int) then ((laws_eqInstr.f (rd_T84 l0 x5).f0 (rd_T84 l0 x5).f1 (rd_T84 l1 x5).f0 (rd_T84 l1 x5).f1).bind fun r4 => (if r4 = true then ((laws_eqInstrS.l0 k l0 l1 (RowKit.wrap64 (x5 + 1))).bind fun r => some (o42 l0 l1 r)) else (some (o42 l0 l1 false)))) else none) else none) else none) else none) else (some (o42 l0 l1 true)))) (by kernel_rfl) (by rw [laws_eqInstrS.l0]; exact lo_) _ h
  · cases h
theorem d42 : Sound Tryz.prog q42 := fn_d (O := O42) (cs := K42) (cons_ d104 nil_) mixed Tryz.func42 (cons_ (fun st => by show C42_0 0 st = none; unfold C42_0; split <;> rfl) nil_) (cons_ h42_0 nil_) fun k a h Z K z e => by
  unfold Q42 at e; split at e
  · rename_i l0 l1
    exact ent e (Lo.of (b := (if (l0.length : Int) = (l1.length : Int) then ((laws_eqInstrS.l0 k l0 l1 0).bind fun r => some (o42 l0 l1 r)) else (some (o42 l0 l1 false)))) (by kernel_rfl) (by unfold laws_eqInstrS.f; exact lo_))
  · cases e
def o105 (r : Bool) : Out Rw := ⟨[.c (.sc (.b r))], []⟩
def Q105 : Mean Rw := fun k a h Z K => match a, h with
  | [.w (.ag [.sc (.i .i64 a0_0), .sc (.i .i64 a0_1), .sc (.i .i64 a0_2)]), .w (.ag [.sc (.i .i64 a1_0), .sc (.i .i64 a1_1), .sc (.i .i64 a1_2)])], [] => (laws_eqBal.f a0_0 a0_1 a0_2 a1_0 a1_1 a1_2).bind fun r => K (o105 r)
  | _, _ => none
def q105 : Cal Rw := ⟨105, false, Q105⟩
def O105 : List (Cal Rw) := []
def K105 : List (Cut Rw) := []
theorem d105 : Sound Tryz.prog q105 := fn_d (O := O105) (cs := K105) nil_ mixed Tryz.func105 nil_ nil_ fun k a h Z K z e => by
  unfold Q105 at e; split at e
  · rename_i a0_0 a0_1 a0_2 a1_0 a1_1 a1_2
    exact ent e (Lo.of (b := (if a0_0 = a1_0 then (if a0_1 = a1_1 then (if a0_2 = a1_2 then (some (o105 true)) else (some (o105 false))) else (some (o105 false))) else (some (o105 false)))) (by kernel_rfl) (by unfold laws_eqBal.f; exact lo_))
  · cases e
def o43 (l0 : List S106) (l1 : List S106) (r : Bool) : Out Rw := ⟨[.c (.sc (.b r))], [.rows 0 (.e106 l0), .rows 0 (.e106 l1)]⟩
def Q43 : Mean Rw := fun k a h Z K => match a, h with
  | [.w (.c (.rw 0)), .w (.c (.rw 1))], [.rows 0 (.e106 l0), .rows 0 (.e106 l1)] => (laws_eqBalS.f k l0 l1).bind fun r => K (o43 l0 l1 r)
  | _, _ => none
def q43 : Cal Rw := ⟨43, false, Q43⟩
def O43 : List (Cal Rw) := [q105]
def C43_0 : Nat → St Rw → Option (Out Rw) := fun k st => match st with
  | ⟨27, 2, 2, [(0, .w (.c (.rw 0))), (1, .w (.c (.rw 1))), (5, .w (.c (.sc (.i .i64 x5))))], [(0, .rows 0 (.e106 l0)), (1, .rows 0 (.e106 l1))]⟩ => (laws_eqBalS.l0 k l0 l1 x5).bind fun r => some (o43 l0 l1 r)
  | _ => none
def K43 : List (Cut Rw) := [⟨[false, true, false, true, true], [0, 1, 5], C43_0⟩]
theorem h43_0 : HH Tryz.prog O43 K43 Tryz.f43 [false, true, false, true, true] C43_0 := fun k st out h => by
  unfold C43_0 at h; split at h
  · rename_i x5 l0 l1
    exact Lo.of (b := (if x5 < (l0.length : Int) then (if 0 ≤ x5 then (if x5 < (l0.length : Int) then (if 0 ≤ x5 then (if x5 < (l1.length : Int) then ((laws_eqBal.f (rd_T106 l0 x5).f0 (rd_T106 l0 x5).f1 (rd_T106 l0 x5).f2 (rd_T106 l1 x5).f0 (rd_T106 l1 x5).f1 (rd_T106 l1 x5).f2).bind fun r4 => (if r4 = true then ((laws_eqBalS.l0 k l0 l1 (RowKit.wrap64 (x5 + 1))).bind fun r => some (o43 l0 l1 r)) else (some (o43 l0 l1 false)))) else none) else none) else none) else none) else (some (o43 l0 l1 true)))) (by kernel_rfl) (by rw [laws_eqBalS.l0]; exact lo_) _ h
  · cases h
theorem d43 : Sound Tryz.prog q43 := fn_d (O := O43) (cs := K43) (cons_ d105 nil_) mixed Tryz.func43 (cons_ (fun st => by show C43_0 0 st = none; unfold C43_0; split <;> rfl) nil_) (cons_ h43_0 nil_) fun k a h Z K z e => by
  unfold Q43 at e; split at e
  · rename_i l0 l1
    exact ent e (Lo.of (b := (if (l0.length : Int) = (l1.length : Int) then ((laws_eqBalS.l0 k l0 l1 0).bind fun r => some (o43 l0 l1 r)) else (some (o43 l0 l1 false)))) (by kernel_rfl) (by unfold laws_eqBalS.f; exact lo_))
  · cases e
def o106 (r : Bool) : Out Rw := ⟨[.c (.sc (.b r))], []⟩
def Q106 : Mean Rw := fun k a h Z K => match a, h with
  | [.w (.ag [.sc (.i .i64 a0_0), .sc (.i .i64 a0_1), .sc (.i .i64 a0_2), .sc (.i .i64 a0_3), .sc (.i .i64 a0_4)]), .w (.ag [.sc (.i .i64 a1_0), .sc (.i .i64 a1_1), .sc (.i .i64 a1_2), .sc (.i .i64 a1_3), .sc (.i .i64 a1_4)])], [] => (laws_eqLot.f a0_0 a0_1 a0_2 a0_3 a0_4 a1_0 a1_1 a1_2 a1_3 a1_4).bind fun r => K (o106 r)
  | _, _ => none
def q106 : Cal Rw := ⟨106, false, Q106⟩
def O106 : List (Cal Rw) := []
def K106 : List (Cut Rw) := []
theorem d106 : Sound Tryz.prog q106 := fn_d (O := O106) (cs := K106) nil_ mixed Tryz.func106 nil_ nil_ fun k a h Z K z e => by
  unfold Q106 at e; split at e
  · rename_i a0_0 a0_1 a0_2 a0_3 a0_4 a1_0 a1_1 a1_2 a1_3 a1_4
    exact ent e (Lo.of (b := (if a0_0 = a1_0 then (if a0_1 = a1_1 then (if a0_2 = a1_2 then (if a0_3 = a1_3 then (if a0_4 = a1_4 then (some (o106 true)) else (some (o106 false))) else (some (o106 false))) else (some (o106 false))) else (some (o106 false))) else (some (o106 false)))) (by kernel_rfl) (by unfold laws_eqLot.f; exact lo_))
  · cases e
def o44 (l0 : List S110) (l1 : List S110) (r : Bool) : Out Rw := ⟨[.c (.sc (.b r))], [.rows 0 (.e110 l0), .rows 0 (.e110 l1)]⟩
def Q44 : Mean Rw := fun k a h Z K => match a, h with
  | [.w (.c (.rw 0)), .w (.c (.rw 1))], [.rows 0 (.e110 l0), .rows 0 (.e110 l1)] => (laws_eqLotS.f k l0 l1).bind fun r => K (o44 l0 l1 r)
  | _, _ => none
def q44 : Cal Rw := ⟨44, false, Q44⟩
def O44 : List (Cal Rw) := [q106]
def C44_0 : Nat → St Rw → Option (Out Rw) := fun k st => match st with
  | ⟨27, 2, 2, [(0, .w (.c (.rw 0))), (1, .w (.c (.rw 1))), (5, .w (.c (.sc (.i .i64 x5))))], [(0, .rows 0 (.e110 l0)), (1, .rows 0 (.e110 l1))]⟩ => (laws_eqLotS.l0 k l0 l1 x5).bind fun r => some (o44 l0 l1 r)
  | _ => none
def K44 : List (Cut Rw) := [⟨[false, true, false, true, true], [0, 1, 5], C44_0⟩]
theorem h44_0 : HH Tryz.prog O44 K44 Tryz.f44 [false, true, false, true, true] C44_0 := fun k st out h => by
  unfold C44_0 at h; split at h
  · rename_i x5 l0 l1
    exact Lo.of (b := (if x5 < (l0.length : Int) then (if 0 ≤ x5 then (if x5 < (l0.length : Int) then (if 0 ≤ x5 then (if x5 < (l1.length : Int) then ((laws_eqLot.f (rd_T110 l0 x5).f0 (rd_T110 l0 x5).f1 (rd_T110 l0 x5).f2 (rd_T110 l0 x5).f3 (rd_T110 l0 x5).f4 (rd_T110 l1 x5).f0 (rd_T110 l1 x5).f1 (rd_T110 l1 x5).f2 (rd_T110 l1 x5).f3 (rd_T110 l1 x5).f4).bind fun r4 => (if r4 = true then ((laws_eqLotS.l0 k l0 l1 (RowKit.wrap64 (x5 + 1))).bind fun r => some (o44 l0 l1 r)) else (some (o44 l0 l1 false)))) else none) else none) else none) else none) else (some (o44 l0 l1 true)))) (by kernel_rfl) (by rw [laws_eqLotS.l0]; exact lo_) _ h
  · cases h
theorem d44 : Sound Tryz.prog q44 := fn_d (O := O44) (cs := K44) (cons_ d106 nil_) mixed Tryz.func44 (cons_ (fun st => by show C44_0 0 st = none; unfold C44_0; split <;> rfl) nil_) (cons_ h44_0 nil_) fun k a h Z K z e => by
  unfold Q44 at e; split at e
  · rename_i l0 l1
    exact ent e (Lo.of (b := (if (l0.length : Int) = (l1.length : Int) then ((laws_eqLotS.l0 k l0 l1 0).bind fun r => some (o44 l0 l1 r)) else (some (o44 l0 l1 false)))) (by kernel_rfl) (by unfold laws_eqLotS.f; exact lo_))
  · cases e
def o107 (r : Bool) : Out Rw := ⟨[.c (.sc (.b r))], []⟩
def Q107 : Mean Rw := fun k a h Z K => match a, h with
  | [.w (.ag [.sc (.i .i64 a0_0), .sc (.i .i64 a0_1), .sc (.i .i64 a0_2), .sc (.i .i64 a0_3), .sc (.i .i64 a0_4), .sc (.i .i64 a0_5), .sc (.i .i64 a0_6), .sc (.i .i64 a0_7)]), .w (.ag [.sc (.i .i64 a1_0), .sc (.i .i64 a1_1), .sc (.i .i64 a1_2), .sc (.i .i64 a1_3), .sc (.i .i64 a1_4), .sc (.i .i64 a1_5), .sc (.i .i64 a1_6), .sc (.i .i64 a1_7)])], [] => (laws_eqTrade.f a0_0 a0_1 a0_2 a0_3 a0_4 a0_5 a0_6 a0_7 a1_0 a1_1 a1_2 a1_3 a1_4 a1_5 a1_6 a1_7).bind fun r => K (o107 r)
  | _, _ => none
def q107 : Cal Rw := ⟨107, false, Q107⟩
def O107 : List (Cal Rw) := []
def K107 : List (Cut Rw) := []
theorem d107 : Sound Tryz.prog q107 := fn_d (O := O107) (cs := K107) nil_ mixed Tryz.func107 nil_ nil_ fun k a h Z K z e => by
  unfold Q107 at e; split at e
  · rename_i a0_0 a0_1 a0_2 a0_3 a0_4 a0_5 a0_6 a0_7 a1_0 a1_1 a1_2 a1_3 a1_4 a1_5 a1_6 a1_7
    exact ent e (Lo.of (b := (if a0_0 = a1_0 then (if a0_1 = a1_1 then (if a0_2 = a1_2 then (if a0_3 = a1_3 then (if a0_4 = a1_4 then (if a0_5 = a1_5 then (if a0_6 = a1_6 then (if a0_7 = a1_7 then (some (o107 true)) else (some (o107 false))) else (some (o107 false))) else (some (o107 false))) else (some (o107 false))) else (some (o107 false))) else (some (o107 false))) else (some (o107 false))) else (some (o107 false)))) (by kernel_rfl) (by unfold laws_eqTrade.f; exact lo_))
  · cases e
def o45 (l0 : List S60) (l1 : List S60) (r : Bool) : Out Rw := ⟨[.c (.sc (.b r))], [.rows 0 (.e60 l0), .rows 0 (.e60 l1)]⟩
def Q45 : Mean Rw := fun k a h Z K => match a, h with
  | [.w (.c (.rw 0)), .w (.c (.rw 1))], [.rows 0 (.e60 l0), .rows 0 (.e60 l1)] => (laws_eqTradeS.f k l0 l1).bind fun r => K (o45 l0 l1 r)
  | _, _ => none
def q45 : Cal Rw := ⟨45, false, Q45⟩
def O45 : List (Cal Rw) := [q107]
def C45_0 : Nat → St Rw → Option (Out Rw) := fun k st => match st with
  | ⟨27, 2, 2, [(0, .w (.c (.rw 0))), (1, .w (.c (.rw 1))), (5, .w (.c (.sc (.i .i64 x5))))], [(0, .rows 0 (.e60 l0)), (1, .rows 0 (.e60 l1))]⟩ => (laws_eqTradeS.l0 k l0 l1 x5).bind fun r => some (o45 l0 l1 r)
  | _ => none
def K45 : List (Cut Rw) := [⟨[false, true, false, true, true], [0, 1, 5], C45_0⟩]
theorem h45_0 : HH Tryz.prog O45 K45 Tryz.f45 [false, true, false, true, true] C45_0 := fun k st out h => by
  unfold C45_0 at h; split at h
  · rename_i x5 l0 l1
    exact Lo.of (b := (if x5 < (l0.length : Int) then (if 0 ≤ x5 then (if x5 < (l0.length : Int) then (if 0 ≤ x5 then (if x5 < (l1.length : Int) then ((laws_eqTrade.f (rd_T60 l0 x5).f0 (rd_T60 l0 x5).f1 (rd_T60 l0 x5).f2 (rd_T60 l0 x5).f3 (rd_T60 l0 x5).f4 (rd_T60 l0 x5).f5 (rd_T60 l0 x5).f6 (rd_T60 l0 x5).f7 (rd_T60 l1 x5).f0 (rd_T60 l1 x5).f1 (rd_T60 l1 x5).f2 (rd_T60 l1 x5).f3 (rd_T60 l1 x5).f4 (rd_T60 l1 x5).f5 (rd_T60 l1 x5).f6 (rd_T60 l1 x5).f7).bind fun r4 => (if r4 = true then ((laws_eqTradeS.l0 k l0 l1 (RowKit.wrap64 (x5 + 1))).bind fun r => some (o45 l0 l1 r)) else (some (o45 l0 l1 false)))) else none) else none) else none) else none) else (some (o45 l0 l1 true)))) (by kernel_rfl) (by rw [laws_eqTradeS.l0]; exact lo_) _ h
  · cases h
theorem d45 : Sound Tryz.prog q45 := fn_d (O := O45) (cs := K45) (cons_ d107 nil_) mixed Tryz.func45 (cons_ (fun st => by show C45_0 0 st = none; unfold C45_0; split <;> rfl) nil_) (cons_ h45_0 nil_) fun k a h Z K z e => by
  unfold Q45 at e; split at e
  · rename_i l0 l1
    exact ent e (Lo.of (b := (if (l0.length : Int) = (l1.length : Int) then ((laws_eqTradeS.l0 k l0 l1 0).bind fun r => some (o45 l0 l1 r)) else (some (o45 l0 l1 false)))) (by kernel_rfl) (by unfold laws_eqTradeS.f; exact lo_))
  · cases e
def o12 (l0_0 : List S80) (l0_1 : List S84) (l0_2 : List S106) (l0_3 : List S110) (l0_4 : List S60) (l1_0 : List S80) (l1_1 : List S84) (l1_2 : List S106) (l1_3 : List S110) (l1_4 : List S60) (r : Bool) : Out Rw := ⟨[.c (.sc (.b r))], [.rows 0 (.e80 l0_0), .rows 0 (.e84 l0_1), .rows 0 (.e106 l0_2), .rows 0 (.e110 l0_3), .rows 0 (.e60 l0_4), .rows 0 (.e80 l1_0), .rows 0 (.e84 l1_1), .rows 0 (.e106 l1_2), .rows 0 (.e110 l1_3), .rows 0 (.e60 l1_4)]⟩
def Q12 : Mean Rw := fun k a h Z K => match a, h with
  | [.w (.ag [.rw 0, .rw 1, .rw 2, .rw 3, .rw 4, .sc (.i .i64 a0_5)]), .w (.ag [.rw 5, .rw 6, .rw 7, .rw 8, .rw 9, .sc (.i .i64 a1_5)])], [.rows 0 (.e80 l0_0), .rows 0 (.e84 l0_1), .rows 0 (.e106 l0_2), .rows 0 (.e110 l0_3), .rows 0 (.e60 l0_4), .rows 0 (.e80 l1_0), .rows 0 (.e84 l1_1), .rows 0 (.e106 l1_2), .rows 0 (.e110 l1_3), .rows 0 (.e60 l1_4)] => (laws_eqBooks.f k l0_0 l0_1 l0_2 l0_3 l0_4 a0_5 l1_0 l1_1 l1_2 l1_3 l1_4 a1_5).bind fun r => K (o12 l0_0 l0_1 l0_2 l0_3 l0_4 l1_0 l1_1 l1_2 l1_3 l1_4 r)
  | _, _ => none
def q12 : Cal Rw := ⟨12, false, Q12⟩
def O12 : List (Cal Rw) := [q41, q42, q43, q44, q45]
def K12 : List (Cut Rw) := []
theorem d12 : Sound Tryz.prog q12 := fn_d (O := O12) (cs := K12) (cons_ d41 (cons_ d42 (cons_ d43 (cons_ d44 (cons_ d45 nil_))))) mixed Tryz.func12 nil_ nil_ fun k a h Z K z e => by
  unfold Q12 at e; split at e
  · rename_i a0_5 a1_5 l0_0 l0_1 l0_2 l0_3 l0_4 l1_0 l1_1 l1_2 l1_3 l1_4
    exact ent e (Lo.of (b := ((laws_eqAccountS.f k l0_0 l1_0).bind fun r13 => (if r13 = true then ((laws_eqInstrS.f k l0_1 l1_1).bind fun r14 => (if r14 = true then ((laws_eqBalS.f k l0_2 l1_2).bind fun r15 => (if r15 = true then ((laws_eqLotS.f k l0_3 l1_3).bind fun r16 => (if r16 = true then ((laws_eqTradeS.f k l0_4 l1_4).bind fun r17 => (if r17 = true then (if a0_5 = a1_5 then (some (o12 l0_0 l0_1 l0_2 l0_3 l0_4 l1_0 l1_1 l1_2 l1_3 l1_4 true)) else (some (o12 l0_0 l0_1 l0_2 l0_3 l0_4 l1_0 l1_1 l1_2 l1_3 l1_4 false))) else (some (o12 l0_0 l0_1 l0_2 l0_3 l0_4 l1_0 l1_1 l1_2 l1_3 l1_4 false)))) else (some (o12 l0_0 l0_1 l0_2 l0_3 l0_4 l1_0 l1_1 l1_2 l1_3 l1_4 false)))) else (some (o12 l0_0 l0_1 l0_2 l0_3 l0_4 l1_0 l1_1 l1_2 l1_3 l1_4 false)))) else (some (o12 l0_0 l0_1 l0_2 l0_3 l0_4 l1_0 l1_1 l1_2 l1_3 l1_4 false)))) else (some (o12 l0_0 l0_1 l0_2 l0_3 l0_4 l1_0 l1_1 l1_2 l1_3 l1_4 false))))) (by kernel_rfl) (by unfold laws_eqBooks.f; exact lo_))
  · cases e
def o46 (r : Int × (List (S80))) : Out Rw := ⟨[.c (.sc (.i .i64 r.1))], [.rows 1 (.e80 r.2)]⟩
def Q46 : Mean Rw := fun k a h Z K => match a, h with
  | [.w (.c (.rw 0)), .w (.c (.sc (.i .i64 a1)))], [.rows 1 (.e80 l0)] => (laws_markAccountS.f k l0 a1).bind fun r => K (o46 r)
  | _, _ => none
def q46 : Cal Rw := ⟨46, true, Q46⟩
def O46 : List (Cal Rw) := []
def C46_0 : Nat → St Rw → Option (Out Rw) := fun k st => match st with
  | ⟨27, 1, 1, [(0, .w (.c (.rw 0))), (1, .w (.c (.sc (.i .i64 x1)))), (5, .w (.c (.sc (.i .i64 x5))))], [(0, .rows 1 (.e80 l0))]⟩ => (laws_markAccountS.l0 k l0 x1 x5).bind fun r => some (o46 r)
  | _ => none
def K46 : List (Cut Rw) := [⟨[false, true, false, true], [0, 1, 5], C46_0⟩]
theorem h46_0 : HH Tryz.prog O46 K46 Tryz.f46 [false, true, false, true] C46_0 := fun k st out h => by
  unfold C46_0 at h; split at h
  · rename_i x1 x5 l0
    exact Lo.of (b := (if x5 < (l0.length : Int) then (if 0 ≤ x5 then (if x5 < (l0.length : Int) then ((some (l0.set x5.toNat (⟨x1, (rd_T80 l0 x5).f1⟩ : S80))).bind fun y4 => (if 0 ≤ x5 then (if x5 < (y4.length : Int) then ((some (y4.set x5.toNat (⟨(rd_T80 y4 x5).f0, RowKit.wrap64 (x1 + 1)⟩ : S80))).bind fun y5 => ((laws_markAccountS.l0 k y5 (RowKit.wrap64 (RowKit.wrap64 (x1 + 1) + 1)) (RowKit.wrap64 (x5 + 1))).bind fun r => some (o46 r))) else none) else none)) else none) else none) else (some (o46 (x1, l0))))) (by kernel_rfl) (by rw [laws_markAccountS.l0]; exact lo_) _ h
  · cases h
theorem d46 : Sound Tryz.prog q46 := fn_d (O := O46) (cs := K46) nil_ mixed Tryz.func46 (cons_ (fun st => by show C46_0 0 st = none; unfold C46_0; split <;> rfl) nil_) (cons_ h46_0 nil_) fun k a h Z K z e => by
  unfold Q46 at e; split at e
  · rename_i a1 l0
    exact ent e (Lo.of (b := ((laws_markAccountS.l0 k l0 a1 0).bind fun r => some (o46 r))) (by kernel_rfl) (by unfold laws_markAccountS.f; exact lo_))
  · cases e
def o47 (r : Int × (List (S84))) : Out Rw := ⟨[.c (.sc (.i .i64 r.1))], [.rows 1 (.e84 r.2)]⟩
def Q47 : Mean Rw := fun k a h Z K => match a, h with
  | [.w (.c (.rw 0)), .w (.c (.sc (.i .i64 a1)))], [.rows 1 (.e84 l0)] => (laws_markInstrS.f k l0 a1).bind fun r => K (o47 r)
  | _, _ => none
def q47 : Cal Rw := ⟨47, true, Q47⟩
def O47 : List (Cal Rw) := []
def C47_0 : Nat → St Rw → Option (Out Rw) := fun k st => match st with
  | ⟨27, 1, 1, [(0, .w (.c (.rw 0))), (1, .w (.c (.sc (.i .i64 x1)))), (5, .w (.c (.sc (.i .i64 x5))))], [(0, .rows 1 (.e84 l0))]⟩ => (laws_markInstrS.l0 k l0 x1 x5).bind fun r => some (o47 r)
  | _ => none
def K47 : List (Cut Rw) := [⟨[false, true, false, true], [0, 1, 5], C47_0⟩]
theorem h47_0 : HH Tryz.prog O47 K47 Tryz.f47 [false, true, false, true] C47_0 := fun k st out h => by
  unfold C47_0 at h; split at h
  · rename_i x1 x5 l0
    exact Lo.of (b := (if x5 < (l0.length : Int) then (if 0 ≤ x5 then (if x5 < (l0.length : Int) then ((some (l0.set x5.toNat (⟨x1, (rd_T84 l0 x5).f1⟩ : S84))).bind fun y4 => (if 0 ≤ x5 then (if x5 < (y4.length : Int) then ((some (y4.set x5.toNat (⟨(rd_T84 y4 x5).f0, RowKit.wrap64 (x1 + 1)⟩ : S84))).bind fun y5 => ((laws_markInstrS.l0 k y5 (RowKit.wrap64 (RowKit.wrap64 (x1 + 1) + 1)) (RowKit.wrap64 (x5 + 1))).bind fun r => some (o47 r))) else none) else none)) else none) else none) else (some (o47 (x1, l0))))) (by kernel_rfl) (by rw [laws_markInstrS.l0]; exact lo_) _ h
  · cases h
theorem d47 : Sound Tryz.prog q47 := fn_d (O := O47) (cs := K47) nil_ mixed Tryz.func47 (cons_ (fun st => by show C47_0 0 st = none; unfold C47_0; split <;> rfl) nil_) (cons_ h47_0 nil_) fun k a h Z K z e => by
  unfold Q47 at e; split at e
  · rename_i a1 l0
    exact ent e (Lo.of (b := ((laws_markInstrS.l0 k l0 a1 0).bind fun r => some (o47 r))) (by kernel_rfl) (by unfold laws_markInstrS.f; exact lo_))
  · cases e
def o48 (r : Int × (List (S106))) : Out Rw := ⟨[.c (.sc (.i .i64 r.1))], [.rows 1 (.e106 r.2)]⟩
def Q48 : Mean Rw := fun k a h Z K => match a, h with
  | [.w (.c (.rw 0)), .w (.c (.sc (.i .i64 a1)))], [.rows 1 (.e106 l0)] => (laws_markBalS.f k l0 a1).bind fun r => K (o48 r)
  | _, _ => none
def q48 : Cal Rw := ⟨48, true, Q48⟩
def O48 : List (Cal Rw) := []
def C48_0 : Nat → St Rw → Option (Out Rw) := fun k st => match st with
  | ⟨34, 1, 1, [(0, .w (.c (.rw 0))), (1, .w (.c (.sc (.i .i64 x1)))), (5, .w (.c (.sc (.i .i64 x5))))], [(0, .rows 1 (.e106 l0))]⟩ => (laws_markBalS.l0 k l0 x1 x5).bind fun r => some (o48 r)
  | _ => none
def K48 : List (Cut Rw) := [⟨[false, true, false, true], [0, 1, 5], C48_0⟩]
theorem h48_0 : HH Tryz.prog O48 K48 Tryz.f48 [false, true, false, true] C48_0 := fun k st out h => by
  unfold C48_0 at h; split at h
  · rename_i x1 x5 l0
    exact Lo.of (b := (if x5 < (l0.length : Int) then (if 0 ≤ x5 then (if x5 < (l0.length : Int) then ((some (l0.set x5.toNat (⟨x1, (rd_T106 l0 x5).f1, (rd_T106 l0 x5).f2⟩ : S106))).bind fun y4 => (if 0 ≤ x5 then (if x5 < (y4.length : Int) then ((some (y4.set x5.toNat (⟨(rd_T106 y4 x5).f0, RowKit.wrap64 (x1 + 1), (rd_T106 y4 x5).f2⟩ : S106))).bind fun y5 => (if 0 ≤ x5 then (if x5 < (y5.length : Int) then ((some (y5.set x5.toNat (⟨(rd_T106 y5 x5).f0, (rd_T106 y5 x5).f1, RowKit.wrap64 (RowKit.wrap64 (x1 + 1) + 1)⟩ : S106))).bind fun y6 => ((laws_markBalS.l0 k y6 (RowKit.wrap64 (RowKit.wrap64 (RowKit.wrap64 (x1 + 1) + 1) + 1)) (RowKit.wrap64 (x5 + 1))).bind fun r => some (o48 r))) else none) else none)) else none) else none)) else none) else none) else (some (o48 (x1, l0))))) (by kernel_rfl) (by rw [laws_markBalS.l0]; exact lo_) _ h
  · cases h
theorem d48 : Sound Tryz.prog q48 := fn_d (O := O48) (cs := K48) nil_ mixed Tryz.func48 (cons_ (fun st => by show C48_0 0 st = none; unfold C48_0; split <;> rfl) nil_) (cons_ h48_0 nil_) fun k a h Z K z e => by
  unfold Q48 at e; split at e
  · rename_i a1 l0
    exact ent e (Lo.of (b := ((laws_markBalS.l0 k l0 a1 0).bind fun r => some (o48 r))) (by kernel_rfl) (by unfold laws_markBalS.f; exact lo_))
  · cases e
def o49 (r : Int × (List (S110))) : Out Rw := ⟨[.c (.sc (.i .i64 r.1))], [.rows 1 (.e110 r.2)]⟩
def Q49 : Mean Rw := fun k a h Z K => match a, h with
  | [.w (.c (.rw 0)), .w (.c (.sc (.i .i64 a1)))], [.rows 1 (.e110 l0)] => (laws_markLotS.f k l0 a1).bind fun r => K (o49 r)
  | _, _ => none
def q49 : Cal Rw := ⟨49, true, Q49⟩
def O49 : List (Cal Rw) := []
def C49_0 : Nat → St Rw → Option (Out Rw) := fun k st => match st with
  | ⟨48, 1, 1, [(0, .w (.c (.rw 0))), (1, .w (.c (.sc (.i .i64 x1)))), (5, .w (.c (.sc (.i .i64 x5))))], [(0, .rows 1 (.e110 l0))]⟩ => (laws_markLotS.l0 k l0 x1 x5).bind fun r => some (o49 r)
  | _ => none
def K49 : List (Cut Rw) := [⟨[false, true, false, true], [0, 1, 5], C49_0⟩]
theorem h49_0 : HH Tryz.prog O49 K49 Tryz.f49 [false, true, false, true] C49_0 := fun k st out h => by
  unfold C49_0 at h; split at h
  · rename_i x1 x5 l0
    exact Lo.of (b := (if x5 < (l0.length : Int) then (if 0 ≤ x5 then (if x5 < (l0.length : Int) then ((some (l0.set x5.toNat (⟨x1, (rd_T110 l0 x5).f1, (rd_T110 l0 x5).f2, (rd_T110 l0 x5).f3, (rd_T110 l0 x5).f4⟩ : S110))).bind fun y4 => (if 0 ≤ x5 then (if x5 < (y4.length : Int) then ((some (y4.set x5.toNat (⟨(rd_T110 y4 x5).f0, RowKit.wrap64 (x1 + 1), (rd_T110 y4 x5).f2, (rd_T110 y4 x5).f3, (rd_T110 y4 x5).f4⟩ : S110))).bind fun y5 => (if 0 ≤ x5 then (if x5 < (y5.length : Int) then ((some (y5.set x5.toNat (⟨(rd_T110 y5 x5).f0, (rd_T110 y5 x5).f1, RowKit.wrap64 (RowKit.wrap64 (x1 + 1) + 1), (rd_T110 y5 x5).f3, (rd_T110 y5 x5).f4⟩ : S110))).bind fun y6 => (if 0 ≤ x5 then (if x5 < (y6.length : Int) then ((some (y6.set x5.toNat (⟨(rd_T110 y6 x5).f0, (rd_T110 y6 x5).f1, (rd_T110 y6 x5).f2, RowKit.wrap64 (RowKit.wrap64 (RowKit.wrap64 (x1 + 1) + 1) + 1), (rd_T110 y6 x5).f4⟩ : S110))).bind fun y7 => (if 0 ≤ x5 then (if x5 < (y7.length : Int) then ((some (y7.set x5.toNat (⟨(rd_T110 y7 x5).f0, (rd_T110 y7 x5).f1, (rd_T110 y7 x5).f2, (rd_T110 y7 x5).f3, RowKit.wrap64 (RowKit.wrap64 (RowKit.wrap64 (RowKit.wrap64 (x1 + 1) + 1) + 1) + 1)⟩ : S110))).bind fun y8 => ((laws_markLotS.l0 k y8 (RowKit.wrap64 (RowKit.wrap64 (RowKit.wrap64 (RowKit.wrap64 (RowKit.wrap64 (x1 + 1) + 1) + 1) + 1) + 1)) (RowKit.wrap64 (x5 + 1))).bind fun r => some (o49 r))) else none) else none)) else none) else none)) else none) else none)) else none) else none)) else none) else none) else (some (o49 (x1, l0))))) (by kernel_rfl) (by rw [laws_markLotS.l0]; exact lo_) _ h
  · cases h
theorem d49 : Sound Tryz.prog q49 := fn_d (O := O49) (cs := K49) nil_ mixed Tryz.func49 (cons_ (fun st => by show C49_0 0 st = none; unfold C49_0; split <;> rfl) nil_) (cons_ h49_0 nil_) fun k a h Z K z e => by
  unfold Q49 at e; split at e
  · rename_i a1 l0
    exact ent e (Lo.of (b := ((laws_markLotS.l0 k l0 a1 0).bind fun r => some (o49 r))) (by kernel_rfl) (by unfold laws_markLotS.f; exact lo_))
  · cases e
end
end Go.Proofs.YtmfgajbkcnlkcaaGreat.AI
namespace Go.Proofs.YtmfgajbkcnlkcaaGreat.AI
open Go Go.RowKit Go.Proofs.YtmfgajbkcnlkcaaGreatW.PrintWords Go.Proofs.YtmfgajbkcnlkcaaGreat.P
set_option linter.unusedVariables false
set_option linter.all false
set_option maxRecDepth 100000
set_option maxHeartbeats 4000000
noncomputable section
def o50 (r : Int × (List (S60))) : Out Rw := ⟨[.c (.sc (.i .i64 r.1))], [.rows 1 (.e60 r.2)]⟩
def Q50 : Mean Rw := fun k a h Z K => match a, h with
  | [.w (.c (.rw 0)), .w (.c (.sc (.i .i64 a1)))], [.rows 1 (.e60 l0)] => (laws_markTradeS.f k l0 a1).bind fun r => K (o50 r)
  | _, _ => none
def q50 : Cal Rw := ⟨50, true, Q50⟩
def O50 : List (Cal Rw) := []
def C50_0 : Nat → St Rw → Option (Out Rw) := fun k st => match st with
  | ⟨69, 1, 1, [(0, .w (.c (.rw 0))), (1, .w (.c (.sc (.i .i64 x1)))), (5, .w (.c (.sc (.i .i64 x5))))], [(0, .rows 1 (.e60 l0))]⟩ => (laws_markTradeS.l0 k l0 x1 x5).bind fun r => some (o50 r)
  | _ => none
def K50 : List (Cut Rw) := [⟨[false, true, false, true], [0, 1, 5], C50_0⟩]
theorem h50_0 : HH Tryz.prog O50 K50 Tryz.f50 [false, true, false, true] C50_0 := fun k st out h => by
  unfold C50_0 at h; split at h
  · rename_i x1 x5 l0
    exact Lo.of (b := (if x5 < (l0.length : Int) then (if 0 ≤ x5 then (if x5 < (l0.length : Int) then ((some (l0.set x5.toNat (⟨x1, (rd_T60 l0 x5).f1, (rd_T60 l0 x5).f2, (rd_T60 l0 x5).f3, (rd_T60 l0 x5).f4, (rd_T60 l0 x5).f5, (rd_T60 l0 x5).f6, (rd_T60 l0 x5).f7⟩ : S60))).bind fun y4 => (if 0 ≤ x5 then (if x5 < (y4.length : Int) then ((some (y4.set x5.toNat (⟨(rd_T60 y4 x5).f0, RowKit.wrap64 (x1 + 1), (rd_T60 y4 x5).f2, (rd_T60 y4 x5).f3, (rd_T60 y4 x5).f4, (rd_T60 y4 x5).f5, (rd_T60 y4 x5).f6, (rd_T60 y4 x5).f7⟩ : S60))).bind fun y5 => (if 0 ≤ x5 then (if x5 < (y5.length : Int) then ((some (y5.set x5.toNat (⟨(rd_T60 y5 x5).f0, (rd_T60 y5 x5).f1, RowKit.wrap64 (RowKit.wrap64 (x1 + 1) + 1), (rd_T60 y5 x5).f3, (rd_T60 y5 x5).f4, (rd_T60 y5 x5).f5, (rd_T60 y5 x5).f6, (rd_T60 y5 x5).f7⟩ : S60))).bind fun y6 => (if 0 ≤ x5 then (if x5 < (y6.length : Int) then ((some (y6.set x5.toNat (⟨(rd_T60 y6 x5).f0, (rd_T60 y6 x5).f1, (rd_T60 y6 x5).f2, RowKit.wrap64 (RowKit.wrap64 (RowKit.wrap64 (x1 + 1) + 1) + 1), (rd_T60 y6 x5).f4, (rd_T60 y6 x5).f5, (rd_T60 y6 x5).f6, (rd_T60 y6 x5).f7⟩ : S60))).bind fun y7 => (if 0 ≤ x5 then (if x5 < (y7.length : Int) then ((some (y7.set x5.toNat (⟨(rd_T60 y7 x5).f0, (rd_T60 y7 x5).f1, (rd_T60 y7 x5).f2, (rd_T60 y7 x5).f3, RowKit.wrap64 (RowKit.wrap64 (RowKit.wrap64 (RowKit.wrap64 (x1 + 1) + 1) + 1) + 1), (rd_T60 y7 x5).f5, (rd_T60 y7 x5).f6, (rd_T60 y7 x5).f7⟩ : S60))).bind fun y8 => (if 0 ≤ x5 then (if x5 < (y8.length : Int) then ((some (y8.set x5.toNat (⟨(rd_T60 y8 x5).f0, (rd_T60 y8 x5).f1, (rd_T60 y8 x5).f2, (rd_T60 y8 x5).f3, (rd_T60 y8 x5).f4, RowKit.wrap64 (RowKit.wrap64 (RowKit.wrap64 (RowKit.wrap64 (RowKit.wrap64 (x1 + 1) + 1) + 1) + 1) + 1), (rd_T60 y8 x5).f6, (rd_T60 y8 x5).f7⟩ : S60))).bind fun y9 => (if 0 ≤ x5 then (if x5 < (y9.length : Int) then ((some (y9.set x5.toNat (⟨(rd_T60 y9 x5).f0, (rd_T60 y9 x5).f1, (rd_T60 y9 x5).f2, (rd_T60 y9 x5).f3, (rd_T60 y9 x5).f4, (rd_T60 y9 x5).f5, RowKit.wrap64 (RowKit.wrap64 (RowKit.wrap64 (RowKit.wrap64 (RowKit.wrap64 (RowKit.wrap64 (x1 + 1) + 1) + 1) + 1) + 1) + 1), (rd_T60 y9 x5).f7⟩ : S60))).bind fun y10 => (if 0 ≤ x5 then (if x5 < (y10.length : Int) then ((some (y10.set x5.toNat (⟨(rd_T60 y10 x5).f0, (rd_T60 y10 x5).f1, (rd_T60 y10 x5).f2, (rd_T60 y10 x5).f3, (rd_T60 y10 x5).f4, (rd_T60 y10 x5).f5, (rd_T60 y10 x5).f6, RowKit.wrap64 (RowKit.wrap64 (RowKit.wrap64 (RowKit.wrap64 (RowKit.wrap64 (RowKit.wrap64 (RowKit.wrap64 (x1 + 1) + 1) + 1) + 1) + 1) + 1) + 1)⟩ : S60))).bind fun y11 => ((laws_markTradeS.l0 k y11 (RowKit.wrap64 (RowKit.wrap64 (RowKit.wrap64 (RowKit.wrap64 (RowKit.wrap64 (RowKit.wrap64 (RowKit.wrap64 (RowKit.wrap64 (x1 + 1) + 1) + 1) + 1) + 1) + 1) + 1) + 1)) (RowKit.wrap64 (x5 + 1))).bind fun r => some (o50 r))) else none) else none)) else none) else none)) else none) else none)) else none) else none)) else none) else none)) else none) else none)) else none) else none)) else none) else none) else (some (o50 (x1, l0))))) (by kernel_rfl) (by rw [laws_markTradeS.l0]; exact lo_) _ h
  · cases h
theorem d50 : Sound Tryz.prog q50 := fn_d (O := O50) (cs := K50) nil_ mixed Tryz.func50 (cons_ (fun st => by show C50_0 0 st = none; unfold C50_0; split <;> rfl) nil_) (cons_ h50_0 nil_) fun k a h Z K z e => by
  unfold Q50 at e; split at e
  · rename_i a1 l0
    exact ent e (Lo.of (b := ((laws_markTradeS.l0 k l0 a1 0).bind fun r => some (o50 r))) (by kernel_rfl) (by unfold laws_markTradeS.f; exact lo_))
  · cases e
def o13 (r : Int × (List (S80)) × (List (S84)) × (List (S106)) × (List (S110)) × (List (S60))) : Out Rw := ⟨[.c (.sc (.i .i64 r.1))], [.rows 1 (.e80 r.2.1), .rows 1 (.e84 r.2.2.1), .rows 1 (.e106 r.2.2.2.1), .rows 1 (.e110 r.2.2.2.2.1), .rows 1 (.e60 r.2.2.2.2.2)]⟩
def Q13 : Mean Rw := fun k a h Z K => match a, h with
  | [.w (.ag [.rw 0, .rw 1, .rw 2, .rw 3, .rw 4, .sc (.i .i64 a0_5)]), .w (.c (.sc (.i .i64 a1)))], [.rows 1 (.e80 l0_0), .rows 1 (.e84 l0_1), .rows 1 (.e106 l0_2), .rows 1 (.e110 l0_3), .rows 1 (.e60 l0_4)] => (laws_markBooks.f k l0_0 l0_1 l0_2 l0_3 l0_4 a0_5 a1).bind fun r => K (o13 r)
  | _, _ => none
def q13 : Cal Rw := ⟨13, true, Q13⟩
def O13 : List (Cal Rw) := [q46, q47, q48, q49, q50]
def K13 : List (Cut Rw) := []
theorem d13 : Sound Tryz.prog q13 := fn_d (O := O13) (cs := K13) (cons_ d46 (cons_ d47 (cons_ d48 (cons_ d49 (cons_ d50 nil_))))) mixed Tryz.func13 nil_ nil_ fun k a h Z K z e => by
  unfold Q13 at e; split at e
  · rename_i a0_5 a1 l0_0 l0_1 l0_2 l0_3 l0_4
    exact ent e (Lo.of (b := ((laws_markAccountS.f k l0_0 a1).bind fun r8 => ((laws_markInstrS.f k l0_1 r8.1).bind fun r9 => ((laws_markBalS.f k l0_2 r9.1).bind fun r10 => ((laws_markLotS.f k l0_3 r10.1).bind fun r11 => ((laws_markTradeS.f k l0_4 r11.1).bind fun r12 => (some (o13 (r12.1, r8.2, r9.2, r10.2, r11.2, r12.2))))))))) (by kernel_rfl) (by unfold laws_markBooks.f; exact lo_))
  · cases e
def o51 (l0 : List S80) (r : Int) : Out Rw := ⟨[.c (.sc (.i .i64 r))], [.rows 0 (.e80 l0)]⟩
def Q51 : Mean Rw := fun k a h Z K => match a, h with
  | [.w (.c (.rw 0)), .w (.c (.sc (.i .i64 a1)))], [.rows 0 (.e80 l0)] => (laws_heldAccountS.f k l0 a1).bind fun r => K (o51 l0 r)
  | _, _ => none
def q51 : Cal Rw := ⟨51, false, Q51⟩
def O51 : List (Cal Rw) := []
def C51_0 : Nat → St Rw → Option (Out Rw) := fun k st => match st with
  | ⟨31, 1, 1, [(0, .w (.c (.rw 0))), (1, .w (.c (.sc (.i .i64 x1)))), (5, .w (.c (.sc (.i .i64 x5))))], [(0, .rows 0 (.e80 l0))]⟩ => (laws_heldAccountS.l0 k l0 x1 x5).bind fun r => some (o51 l0 r)
  | _ => none
def K51 : List (Cut Rw) := [⟨[false, true, false, true], [0, 1, 5], C51_0⟩]
theorem h51_0 : HH Tryz.prog O51 K51 Tryz.f51 [false, true, false, true] C51_0 := fun k st out h => by
  unfold C51_0 at h; split at h
  · rename_i x1 x5 l0
    exact Lo.of (b := (if x5 < (l0.length : Int) then (if 0 ≤ x5 then (if x5 < (l0.length : Int) then (if (rd_T80 l0 x5).f0 = x1 then (if 0 ≤ x5 then (if x5 < (l0.length : Int) then (if (rd_T80 l0 x5).f1 = RowKit.wrap64 (x1 + 1) then ((laws_heldAccountS.l0 k l0 (RowKit.wrap64 (RowKit.wrap64 (x1 + 1) + 1)) (RowKit.wrap64 (x5 + 1))).bind fun r => some (o51 l0 r)) else (some (o51 l0 (-1)))) else none) else none) else (some (o51 l0 (-1)))) else none) else none) else (some (o51 l0 x1)))) (by kernel_rfl) (by rw [laws_heldAccountS.l0]; exact lo_) _ h
  · cases h
theorem d51 : Sound Tryz.prog q51 := fn_d (O := O51) (cs := K51) nil_ mixed Tryz.func51 (cons_ (fun st => by show C51_0 0 st = none; unfold C51_0; split <;> rfl) nil_) (cons_ h51_0 nil_) fun k a h Z K z e => by
  unfold Q51 at e; split at e
  · rename_i a1 l0
    exact ent e (Lo.of (b := ((laws_heldAccountS.l0 k l0 a1 0).bind fun r => some (o51 l0 r))) (by kernel_rfl) (by unfold laws_heldAccountS.f; exact lo_))
  · cases e
def o52 (l0 : List S84) (r : Int) : Out Rw := ⟨[.c (.sc (.i .i64 r))], [.rows 0 (.e84 l0)]⟩
def Q52 : Mean Rw := fun k a h Z K => match a, h with
  | [.w (.c (.rw 0)), .w (.c (.sc (.i .i64 a1)))], [.rows 0 (.e84 l0)] => (laws_heldInstrS.f k l0 a1).bind fun r => K (o52 l0 r)
  | _, _ => none
def q52 : Cal Rw := ⟨52, false, Q52⟩
def O52 : List (Cal Rw) := []
def C52_0 : Nat → St Rw → Option (Out Rw) := fun k st => match st with
  | ⟨31, 1, 1, [(0, .w (.c (.rw 0))), (1, .w (.c (.sc (.i .i64 x1)))), (5, .w (.c (.sc (.i .i64 x5))))], [(0, .rows 0 (.e84 l0))]⟩ => (laws_heldInstrS.l0 k l0 x1 x5).bind fun r => some (o52 l0 r)
  | _ => none
def K52 : List (Cut Rw) := [⟨[false, true, false, true], [0, 1, 5], C52_0⟩]
theorem h52_0 : HH Tryz.prog O52 K52 Tryz.f52 [false, true, false, true] C52_0 := fun k st out h => by
  unfold C52_0 at h; split at h
  · rename_i x1 x5 l0
    exact Lo.of (b := (if x5 < (l0.length : Int) then (if 0 ≤ x5 then (if x5 < (l0.length : Int) then (if (rd_T84 l0 x5).f0 = x1 then (if 0 ≤ x5 then (if x5 < (l0.length : Int) then (if (rd_T84 l0 x5).f1 = RowKit.wrap64 (x1 + 1) then ((laws_heldInstrS.l0 k l0 (RowKit.wrap64 (RowKit.wrap64 (x1 + 1) + 1)) (RowKit.wrap64 (x5 + 1))).bind fun r => some (o52 l0 r)) else (some (o52 l0 (-1)))) else none) else none) else (some (o52 l0 (-1)))) else none) else none) else (some (o52 l0 x1)))) (by kernel_rfl) (by rw [laws_heldInstrS.l0]; exact lo_) _ h
  · cases h
theorem d52 : Sound Tryz.prog q52 := fn_d (O := O52) (cs := K52) nil_ mixed Tryz.func52 (cons_ (fun st => by show C52_0 0 st = none; unfold C52_0; split <;> rfl) nil_) (cons_ h52_0 nil_) fun k a h Z K z e => by
  unfold Q52 at e; split at e
  · rename_i a1 l0
    exact ent e (Lo.of (b := ((laws_heldInstrS.l0 k l0 a1 0).bind fun r => some (o52 l0 r))) (by kernel_rfl) (by unfold laws_heldInstrS.f; exact lo_))
  · cases e
def o53 (l0 : List S106) (r : Int) : Out Rw := ⟨[.c (.sc (.i .i64 r))], [.rows 0 (.e106 l0)]⟩
def Q53 : Mean Rw := fun k a h Z K => match a, h with
  | [.w (.c (.rw 0)), .w (.c (.sc (.i .i64 a1)))], [.rows 0 (.e106 l0)] => (laws_heldBalS.f k l0 a1).bind fun r => K (o53 l0 r)
  | _, _ => none
def q53 : Cal Rw := ⟨53, false, Q53⟩
def O53 : List (Cal Rw) := []
def C53_0 : Nat → St Rw → Option (Out Rw) := fun k st => match st with
  | ⟨40, 1, 1, [(0, .w (.c (.rw 0))), (1, .w (.c (.sc (.i .i64 x1)))), (5, .w (.c (.sc (.i .i64 x5))))], [(0, .rows 0 (.e106 l0))]⟩ => (laws_heldBalS.l0 k l0 x1 x5).bind fun r => some (o53 l0 r)
  | _ => none
def K53 : List (Cut Rw) := [⟨[false, true, false, true], [0, 1, 5], C53_0⟩]
theorem h53_0 : HH Tryz.prog O53 K53 Tryz.f53 [false, true, false, true] C53_0 := fun k st out h => by
  unfold C53_0 at h; split at h
  · rename_i x1 x5 l0
    exact Lo.of (b := (if x5 < (l0.length : Int) then (if 0 ≤ x5 then (if x5 < (l0.length : Int) then (if (rd_T106 l0 x5).f0 = x1 then (if 0 ≤ x5 then (if x5 < (l0.length : Int) then (if (rd_T106 l0 x5).f1 = RowKit.wrap64 (x1 + 1) then (if 0 ≤ x5 then (if x5 < (l0.length : Int) then (if (rd_T106 l0 x5).f2 = RowKit.wrap64 (RowKit.wrap64 (x1 + 1) + 1) then ((laws_heldBalS.l0 k l0 (RowKit.wrap64 (RowKit.wrap64 (RowKit.wrap64 (x1 + 1) + 1) + 1)) (RowKit.wrap64 (x5 + 1))).bind fun r => some (o53 l0 r)) else (some (o53 l0 (-1)))) else none) else none) else (some (o53 l0 (-1)))) else none) else none) else (some (o53 l0 (-1)))) else none) else none) else (some (o53 l0 x1)))) (by kernel_rfl) (by rw [laws_heldBalS.l0]; exact lo_) _ h
  · cases h
theorem d53 : Sound Tryz.prog q53 := fn_d (O := O53) (cs := K53) nil_ mixed Tryz.func53 (cons_ (fun st => by show C53_0 0 st = none; unfold C53_0; split <;> rfl) nil_) (cons_ h53_0 nil_) fun k a h Z K z e => by
  unfold Q53 at e; split at e
  · rename_i a1 l0
    exact ent e (Lo.of (b := ((laws_heldBalS.l0 k l0 a1 0).bind fun r => some (o53 l0 r))) (by kernel_rfl) (by unfold laws_heldBalS.f; exact lo_))
  · cases e
def o54 (l0 : List S110) (r : Int) : Out Rw := ⟨[.c (.sc (.i .i64 r))], [.rows 0 (.e110 l0)]⟩
def Q54 : Mean Rw := fun k a h Z K => match a, h with
  | [.w (.c (.rw 0)), .w (.c (.sc (.i .i64 a1)))], [.rows 0 (.e110 l0)] => (laws_heldLotS.f k l0 a1).bind fun r => K (o54 l0 r)
  | _, _ => none
def q54 : Cal Rw := ⟨54, false, Q54⟩
def O54 : List (Cal Rw) := []
def C54_0 : Nat → St Rw → Option (Out Rw) := fun k st => match st with
  | ⟨58, 1, 1, [(0, .w (.c (.rw 0))), (1, .w (.c (.sc (.i .i64 x1)))), (5, .w (.c (.sc (.i .i64 x5))))], [(0, .rows 0 (.e110 l0))]⟩ => (laws_heldLotS.l0 k l0 x1 x5).bind fun r => some (o54 l0 r)
  | _ => none
def K54 : List (Cut Rw) := [⟨[false, true, false, true], [0, 1, 5], C54_0⟩]
theorem h54_0 : HH Tryz.prog O54 K54 Tryz.f54 [false, true, false, true] C54_0 := fun k st out h => by
  unfold C54_0 at h; split at h
  · rename_i x1 x5 l0
    exact Lo.of (b := (if x5 < (l0.length : Int) then (if 0 ≤ x5 then (if x5 < (l0.length : Int) then (if (rd_T110 l0 x5).f0 = x1 then (if 0 ≤ x5 then (if x5 < (l0.length : Int) then (if (rd_T110 l0 x5).f1 = RowKit.wrap64 (x1 + 1) then (if 0 ≤ x5 then (if x5 < (l0.length : Int) then (if (rd_T110 l0 x5).f2 = RowKit.wrap64 (RowKit.wrap64 (x1 + 1) + 1) then (if 0 ≤ x5 then (if x5 < (l0.length : Int) then (if (rd_T110 l0 x5).f3 = RowKit.wrap64 (RowKit.wrap64 (RowKit.wrap64 (x1 + 1) + 1) + 1) then (if 0 ≤ x5 then (if x5 < (l0.length : Int) then (if (rd_T110 l0 x5).f4 = RowKit.wrap64 (RowKit.wrap64 (RowKit.wrap64 (RowKit.wrap64 (x1 + 1) + 1) + 1) + 1) then ((laws_heldLotS.l0 k l0 (RowKit.wrap64 (RowKit.wrap64 (RowKit.wrap64 (RowKit.wrap64 (RowKit.wrap64 (x1 + 1) + 1) + 1) + 1) + 1)) (RowKit.wrap64 (x5 + 1))).bind fun r => some (o54 l0 r)) else (some (o54 l0 (-1)))) else none) else none) else (some (o54 l0 (-1)))) else none) else none) else (some (o54 l0 (-1)))) else none) else none) else (some (o54 l0 (-1)))) else none) else none) else (some (o54 l0 (-1)))) else none) else none) else (some (o54 l0 x1)))) (by kernel_rfl) (by rw [laws_heldLotS.l0]; exact lo_) _ h
  · cases h
theorem d54 : Sound Tryz.prog q54 := fn_d (O := O54) (cs := K54) nil_ mixed Tryz.func54 (cons_ (fun st => by show C54_0 0 st = none; unfold C54_0; split <;> rfl) nil_) (cons_ h54_0 nil_) fun k a h Z K z e => by
  unfold Q54 at e; split at e
  · rename_i a1 l0
    exact ent e (Lo.of (b := ((laws_heldLotS.l0 k l0 a1 0).bind fun r => some (o54 l0 r))) (by kernel_rfl) (by unfold laws_heldLotS.f; exact lo_))
  · cases e
def o55 (l0 : List S60) (r : Int) : Out Rw := ⟨[.c (.sc (.i .i64 r))], [.rows 0 (.e60 l0)]⟩
def Q55 : Mean Rw := fun k a h Z K => match a, h with
  | [.w (.c (.rw 0)), .w (.c (.sc (.i .i64 a1)))], [.rows 0 (.e60 l0)] => (laws_heldTradeS.f k l0 a1).bind fun r => K (o55 l0 r)
  | _, _ => none
def q55 : Cal Rw := ⟨55, false, Q55⟩
def O55 : List (Cal Rw) := []
def C55_0 : Nat → St Rw → Option (Out Rw) := fun k st => match st with
  | ⟨85, 1, 1, [(0, .w (.c (.rw 0))), (1, .w (.c (.sc (.i .i64 x1)))), (5, .w (.c (.sc (.i .i64 x5))))], [(0, .rows 0 (.e60 l0))]⟩ => (laws_heldTradeS.l0 k l0 x1 x5).bind fun r => some (o55 l0 r)
  | _ => none
def K55 : List (Cut Rw) := [⟨[false, true, false, true], [0, 1, 5], C55_0⟩]
theorem h55_0 : HH Tryz.prog O55 K55 Tryz.f55 [false, true, false, true] C55_0 := fun k st out h => by
  unfold C55_0 at h; split at h
  · rename_i x1 x5 l0
    exact Lo.of (b := (if x5 < (l0.length : Int) then (if 0 ≤ x5 then (if x5 < (l0.length : Int) then (if (rd_T60 l0 x5).f0 = x1 then (if 0 ≤ x5 then (if x5 < (l0.length : Int) then (if (rd_T60 l0 x5).f1 = RowKit.wrap64 (x1 + 1) then (if 0 ≤ x5 then (if x5 < (l0.length : Int) then (if (rd_T60 l0 x5).f2 = RowKit.wrap64 (RowKit.wrap64 (x1 + 1) + 1) then (if 0 ≤ x5 then (if x5 < (l0.length : Int) then (if (rd_T60 l0 x5).f3 = RowKit.wrap64 (RowKit.wrap64 (RowKit.wrap64 (x1 + 1) + 1) + 1) then (if 0 ≤ x5 then (if x5 < (l0.length : Int) then (if (rd_T60 l0 x5).f4 = RowKit.wrap64 (RowKit.wrap64 (RowKit.wrap64 (RowKit.wrap64 (x1 + 1) + 1) + 1) + 1) then (if 0 ≤ x5 then (if x5 < (l0.length : Int) then (if (rd_T60 l0 x5).f5 = RowKit.wrap64 (RowKit.wrap64 (RowKit.wrap64 (RowKit.wrap64 (RowKit.wrap64 (x1 + 1) + 1) + 1) + 1) + 1) then (if 0 ≤ x5 then (if x5 < (l0.length : Int) then (if (rd_T60 l0 x5).f6 = RowKit.wrap64 (RowKit.wrap64 (RowKit.wrap64 (RowKit.wrap64 (RowKit.wrap64 (RowKit.wrap64 (x1 + 1) + 1) + 1) + 1) + 1) + 1) then (if 0 ≤ x5 then (if x5 < (l0.length : Int) then (if (rd_T60 l0 x5).f7 = RowKit.wrap64 (RowKit.wrap64 (RowKit.wrap64 (RowKit.wrap64 (RowKit.wrap64 (RowKit.wrap64 (RowKit.wrap64 (x1 + 1) + 1) + 1) + 1) + 1) + 1) + 1) then ((laws_heldTradeS.l0 k l0 (RowKit.wrap64 (RowKit.wrap64 (RowKit.wrap64 (RowKit.wrap64 (RowKit.wrap64 (RowKit.wrap64 (RowKit.wrap64 (RowKit.wrap64 (x1 + 1) + 1) + 1) + 1) + 1) + 1) + 1) + 1)) (RowKit.wrap64 (x5 + 1))).bind fun r => some (o55 l0 r)) else (some (o55 l0 (-1)))) else none) else none) else (some (o55 l0 (-1)))) else none) else none) else (some (o55 l0 (-1)))) else none) else none) else (some (o55 l0 (-1)))) else none) else none) else (some (o55 l0 (-1)))) else none) else none) else (some (o55 l0 (-1)))) else none) else none) else (some (o55 l0 (-1)))) else none) else none) else (some (o55 l0 (-1)))) else none) else none) else (some (o55 l0 x1)))) (by kernel_rfl) (by rw [laws_heldTradeS.l0]; exact lo_) _ h
  · cases h
theorem d55 : Sound Tryz.prog q55 := fn_d (O := O55) (cs := K55) nil_ mixed Tryz.func55 (cons_ (fun st => by show C55_0 0 st = none; unfold C55_0; split <;> rfl) nil_) (cons_ h55_0 nil_) fun k a h Z K z e => by
  unfold Q55 at e; split at e
  · rename_i a1 l0
    exact ent e (Lo.of (b := ((laws_heldTradeS.l0 k l0 a1 0).bind fun r => some (o55 l0 r))) (by kernel_rfl) (by unfold laws_heldTradeS.f; exact lo_))
  · cases e
def o14 (l0_0 : List S80) (l0_1 : List S84) (l0_2 : List S106) (l0_3 : List S110) (l0_4 : List S60) (r : Int) : Out Rw := ⟨[.c (.sc (.i .i64 r))], [.rows 0 (.e80 l0_0), .rows 0 (.e84 l0_1), .rows 0 (.e106 l0_2), .rows 0 (.e110 l0_3), .rows 0 (.e60 l0_4)]⟩
def Q14 : Mean Rw := fun k a h Z K => match a, h with
  | [.w (.ag [.rw 0, .rw 1, .rw 2, .rw 3, .rw 4, .sc (.i .i64 a0_5)]), .w (.c (.sc (.i .i64 a1)))], [.rows 0 (.e80 l0_0), .rows 0 (.e84 l0_1), .rows 0 (.e106 l0_2), .rows 0 (.e110 l0_3), .rows 0 (.e60 l0_4)] => (laws_heldBooks.f k l0_0 l0_1 l0_2 l0_3 l0_4 a0_5 a1).bind fun r => K (o14 l0_0 l0_1 l0_2 l0_3 l0_4 r)
  | _, _ => none
def q14 : Cal Rw := ⟨14, false, Q14⟩
def O14 : List (Cal Rw) := [q51, q52, q53, q54, q55]
def K14 : List (Cut Rw) := []
theorem d14 : Sound Tryz.prog q14 := fn_d (O := O14) (cs := K14) (cons_ d51 (cons_ d52 (cons_ d53 (cons_ d54 (cons_ d55 nil_))))) mixed Tryz.func14 nil_ nil_ fun k a h Z K z e => by
  unfold Q14 at e; split at e
  · rename_i a0_5 a1 l0_0 l0_1 l0_2 l0_3 l0_4
    exact ent e (Lo.of (b := ((laws_heldAccountS.f k l0_0 a1).bind fun r8 => (if r8 < 0 then (some (o14 l0_0 l0_1 l0_2 l0_3 l0_4 (-1))) else ((laws_heldInstrS.f k l0_1 r8).bind fun r9 => (if r9 < 0 then (some (o14 l0_0 l0_1 l0_2 l0_3 l0_4 (-1))) else ((laws_heldBalS.f k l0_2 r9).bind fun r10 => (if r10 < 0 then (some (o14 l0_0 l0_1 l0_2 l0_3 l0_4 (-1))) else ((laws_heldLotS.f k l0_3 r10).bind fun r11 => (if r11 < 0 then (some (o14 l0_0 l0_1 l0_2 l0_3 l0_4 (-1))) else ((laws_heldTradeS.f k l0_4 r11).bind fun r12 => (if r12 < 0 then (some (o14 l0_0 l0_1 l0_2 l0_3 l0_4 (-1))) else (some (o14 l0_0 l0_1 l0_2 l0_3 l0_4 r12))))))))))))) (by kernel_rfl) (by unfold laws_heldBooks.f; exact lo_))
  · cases e
def o6 (l0_0 : List S103) (l0_1 : List S105) (l0_2 : List S108) (l0_3 : List S112) (l0_4 : List S114) (r : Bool) : Out Rw := ⟨[.c (.sc (.b r))], [.rows 0 (.e103 l0_0), .rows 0 (.e105 l0_1), .rows 0 (.e108 l0_2), .rows 0 (.e112 l0_3), .rows 0 (.e114 l0_4)]⟩
def Q6 : Mean Rw := fun k a h Z K => match a, h with
  | [.w (.ag [.rw 0, .rw 1, .rw 2, .rw 3, .rw 4, .sc (.i .i64 a0_5)]), .w (.c (.sc (.i .i64 a1))), .w (.c (.sc (.i .i64 a2))), .w (.c (.sc (.i .i64 a3))), .w (.c (.sc (.i .i64 a4))), .w (.c (.sc (.i .i64 a5)))], [.rows 0 (.e103 l0_0), .rows 0 (.e105 l0_1), .rows 0 (.e108 l0_2), .rows 0 (.e112 l0_3), .rows 0 (.e114 l0_4)] => (laws_FnExactBookIssue.f k l0_0 l0_1 l0_2 l0_3 l0_4 a0_5 a1 a2 a3 a4 a5).bind fun r => K (o6 l0_0 l0_1 l0_2 l0_3 l0_4 r)
  | _, _ => none
def q6 : Cal Rw := ⟨6, false, Q6⟩
def O6 : List (Cal Rw) := [q8, q10, q19, q20, q12, q13, q14]
def K6 : List (Cut Rw) := []
theorem d6 : Sound Tryz.prog q6 := fn_d (O := O6) (cs := K6) (cons_ d8 (cons_ d10 (cons_ d19 (cons_ d20 (cons_ d12 (cons_ d13 (cons_ d14 nil_))))))) mixed Tryz.func6 nil_ nil_ fun k a h Z K z e => by
  unfold Q6 at e; split at e
  · rename_i a0_5 a1 a2 a3 a4 a5 l0_0 l0_1 l0_2 l0_3 l0_4
    exact ent e (Lo.of (b := ((laws_szBooks.f l0_0 l0_1 l0_2 l0_3 l0_4 a0_5 1048576).bind fun r12 => (if r12 < 0 then (some (o6 l0_0 l0_1 l0_2 l0_3 l0_4 true)) else ((laws_toBooks.f k l0_0 l0_1 l0_2 l0_3 l0_4 a0_5).bind fun r13 => ((own_BookIssue.f k r13.1 r13.2.1 r13.2.2.1 r13.2.2.2.1 r13.2.2.2.2.1 r13.2.2.2.2.2 a1 a2 a3 a4 a5).bind fun r14 => ((laws_toBooks.f k l0_0 l0_1 l0_2 l0_3 l0_4 a0_5).bind fun r15 => ((impl_BookIssue.f k r15.1 r15.2.1 r15.2.2.1 r15.2.2.2.1 r15.2.2.2.2.1 r15.2.2.2.2.2 a1 a2 a3 a4 a5).bind fun r16 => ((laws_eqBooks.f k r16.1 r16.2.1 r16.2.2.1 r16.2.2.2.1 r16.2.2.2.2.1 r16.2.2.2.2.2.1 r14.1 r14.2.1 r14.2.2.1 r14.2.2.2.1 r14.2.2.2.2.1 r14.2.2.2.2.2.1).bind fun r17 => (if r17 = true then (if r16.2.2.2.2.2.2 = r14.2.2.2.2.2.2 then ((laws_toBooks.f k l0_0 l0_1 l0_2 l0_3 l0_4 a0_5).bind fun r18 => ((laws_eqBooks.f k r15.1 r15.2.1 r15.2.2.1 r15.2.2.2.1 r15.2.2.2.2.1 r15.2.2.2.2.2 r18.1 r18.2.1 r18.2.2.1 r18.2.2.2.1 r18.2.2.2.2.1 r18.2.2.2.2.2).bind fun r19 => (if r19 = true then ((laws_markBooks.f k r15.1 r15.2.1 r15.2.2.1 r15.2.2.2.1 r15.2.2.2.2.1 r15.2.2.2.2.2 1).bind fun r20 => (if r20.1 < 0 then (some (o6 l0_0 l0_1 l0_2 l0_3 l0_4 false)) else ((laws_eqBooks.f k r16.1 r16.2.1 r16.2.2.1 r16.2.2.2.1 r16.2.2.2.2.1 r16.2.2.2.2.2.1 r14.1 r14.2.1 r14.2.2.1 r14.2.2.2.1 r14.2.2.2.2.1 r14.2.2.2.2.2.1).bind fun r21 => (if r21 = true then (if r16.2.2.2.2.2.2 = r14.2.2.2.2.2.2 then ((laws_markBooks.f k r16.1 r16.2.1 r16.2.2.1 r16.2.2.2.1 r16.2.2.2.2.1 r16.2.2.2.2.2.1 1).bind fun r22 => ((laws_heldBooks.f k r22.2.1 r22.2.2.1 r22.2.2.2.1 r22.2.2.2.2.1 r22.2.2.2.2.2 r16.2.2.2.2.2.1 1).bind fun r23 => (if r23 < 0 then (some (o6 l0_0 l0_1 l0_2 l0_3 l0_4 false)) else (if r23 = r22.1 then ((laws_toBooks.f k l0_0 l0_1 l0_2 l0_3 l0_4 a0_5).bind fun r24 => ((impl_BookIssue.f k r24.1 r24.2.1 r24.2.2.1 r24.2.2.2.1 r24.2.2.2.2.1 r24.2.2.2.2.2 a1 a2 a3 a4 a5).bind fun r25 => ((laws_eqBooks.f k r25.1 r25.2.1 r25.2.2.1 r25.2.2.2.1 r25.2.2.2.2.1 r25.2.2.2.2.2.1 r14.1 r14.2.1 r14.2.2.1 r14.2.2.2.1 r14.2.2.2.2.1 r14.2.2.2.2.2.1).bind fun r26 => (if r26 = true then (if r25.2.2.2.2.2.2 = r14.2.2.2.2.2.2 then ((laws_heldBooks.f k r22.2.1 r22.2.2.1 r22.2.2.2.1 r22.2.2.2.2.1 r22.2.2.2.2.2 r16.2.2.2.2.2.1 1).bind fun r27 => (if r27 < 0 then (some (o6 l0_0 l0_1 l0_2 l0_3 l0_4 false)) else (if r27 = r22.1 then (some (o6 l0_0 l0_1 l0_2 l0_3 l0_4 true)) else (some (o6 l0_0 l0_1 l0_2 l0_3 l0_4 false))))) else (some (o6 l0_0 l0_1 l0_2 l0_3 l0_4 false))) else (some (o6 l0_0 l0_1 l0_2 l0_3 l0_4 false)))))) else (some (o6 l0_0 l0_1 l0_2 l0_3 l0_4 false)))))) else (some (o6 l0_0 l0_1 l0_2 l0_3 l0_4 false))) else (some (o6 l0_0 l0_1 l0_2 l0_3 l0_4 false)))))) else (some (o6 l0_0 l0_1 l0_2 l0_3 l0_4 false))))) else (some (o6 l0_0 l0_1 l0_2 l0_3 l0_4 false))) else (some (o6 l0_0 l0_1 l0_2 l0_3 l0_4 false))))))))))) (by kernel_rfl) (by unfold laws_FnExactBookIssue.f; exact lo_))
  · cases e
end
end Go.Proofs.YtmfgajbkcnlkcaaGreat.AI
namespace Go.Proofs.YtmfgajbkcnlkcaaGreat.AI
open Go Go.RowKit Go.Proofs.YtmfgajbkcnlkcaaGreatW.PrintWords Go.Proofs.YtmfgajbkcnlkcaaGreat.P
set_option linter.unusedVariables false
set_option linter.all false
set_option maxRecDepth 100000
set_option maxHeartbeats 4000000
noncomputable section
theorem root6_ok (k : Nat) (A0_0 : Option Addr) (c0_0 : Nat) (l0_0 : List (S103)) (A0_1 : Option Addr) (c0_1 : Nat) (l0_1 : List (S105)) (A0_2 : Option Addr) (c0_2 : Nat) (l0_2 : List (S108)) (A0_3 : Option Addr) (c0_3 : Nat) (l0_3 : List (S112)) (A0_4 : Option Addr) (c0_4 : Nat) (l0_4 : List (S114)) (a0_5 : Int) (a1 : Int) (a2 : Int) (a3 : Int) (a4 : Int) (a5 : Int) (r : Bool) (w : World) (hr0_0 : Kd.C k103 w A0_0 l0_0.length l0_0) (hc0_0 : l0_0.length ≤ c0_0) (hr0_1 : Kd.C k105 w A0_1 l0_1.length l0_1) (hc0_1 : l0_1.length ≤ c0_1) (hr0_2 : Kd.C k108 w A0_2 l0_2.length l0_2) (hc0_2 : l0_2.length ≤ c0_2) (hr0_3 : Kd.C k112 w A0_3 l0_3.length l0_3) (hc0_3 : l0_3.length ≤ c0_3) (hr0_4 : Kd.C k114 w A0_4 l0_4.length l0_4) (hc0_4 : l0_4.length ≤ c0_4) (h : laws_FnExactBookIssue.f k l0_0 l0_1 l0_2 l0_3 l0_4 a0_5 a1 a2 a3 a4 a5 = some r) :
    Calls Tryz.prog 6 #[.agg #[.slice A0_0 l0_0.length c0_0, .slice A0_1 l0_1.length c0_1, .slice A0_2 l0_2.length c0_2, .slice A0_3 l0_3.length c0_3, .slice A0_4 l0_4.length c0_4, .int .i64 a0_5], .int .i64 a1, .int .i64 a2, .int .i64 a3, .int .i64 a4, .int .i64 a5] w fun e w' => e = .returned (.bool r) ∧ Below w.heap.size w w' := by
  let G : Nat → Value := fun i => match i with
    | 0 => .slice A0_0 l0_0.length c0_0
    | 1 => .slice A0_1 l0_1.length c0_1
    | 2 => .slice A0_2 l0_2.length c0_2
    | 3 => .slice A0_3 l0_3.length c0_3
    | 4 => .slice A0_4 l0_4.length c0_4
    | _ => undef
  have hA : ArgsOK (R := Rw) Tryz.prog w G [.w (.ag [.rw 0, .rw 1, .rw 2, .rw 3, .rw 4, .sc (.i .i64 a0_5)]), .w (.c (.sc (.i .i64 a1))), .w (.c (.sc (.i .i64 a2))), .w (.c (.sc (.i .i64 a3))), .w (.c (.sc (.i .i64 a4))), .w (.c (.sc (.i .i64 a5)))] [.rows 0 (.e103 l0_0), .rows 0 (.e105 l0_1), .rows 0 (.e108 l0_2), .rows 0 (.e112 l0_3), .rows 0 (.e114 l0_4)] := args_ro (by simp [isRo]) (by simp [idsV, idsW, idsC, EpOK]) fun i b hb => by
    match i, hb with
    | 0, hb => obtain rfl := Option.some.inj hb; exact ro103.2 ⟨_, _, rfl, hc0_0, hr0_0⟩
    | 1, hb => obtain rfl := Option.some.inj hb; exact ro105.2 ⟨_, _, rfl, hc0_1, hr0_1⟩
    | 2, hb => obtain rfl := Option.some.inj hb; exact ro108.2 ⟨_, _, rfl, hc0_2, hr0_2⟩
    | 3, hb => obtain rfl := Option.some.inj hb; exact ro112.2 ⟨_, _, rfl, hc0_3, hr0_3⟩
    | 4, hb => obtain rfl := Option.some.inj hb; exact ro114.2 ⟨_, _, rfl, hc0_4, hr0_4⟩
    | _ + 5, hb => simp at hb
  have hq := calls_ro (out := o6 l0_0 l0_1 l0_2 l0_3 l0_4 r) (by simp [isRo]) (by simp [o6, idsW, idsC]) (good_of d6 (k := k) (by show (laws_FnExactBookIssue.f k l0_0 l0_1 l0_2 l0_3 l0_4 a0_5 a1 a2 a3 a4 a5).bind _ = _; rw [h]; rfl)) hA
  have hv : (List.map (concV G) [.w (.ag [.rw 0, .rw 1, .rw 2, .rw 3, .rw 4, .sc (.i .i64 a0_5)]), .w (.c (.sc (.i .i64 a1))), .w (.c (.sc (.i .i64 a2))), .w (.c (.sc (.i .i64 a3))), .w (.c (.sc (.i .i64 a4))), .w (.c (.sc (.i .i64 a5)))]).toArray = #[.agg #[.slice A0_0 l0_0.length c0_0, .slice A0_1 l0_1.length c0_1, .slice A0_2 l0_2.length c0_2, .slice A0_3 l0_3.length c0_3, .slice A0_4 l0_4.length c0_4, .int .i64 a0_5], .int .i64 a1, .int .i64 a2, .int .i64 a3, .int .i64 a4, .int .i64 a5] := by simp [concV, concW, conc, Sc.v, G]
  rw [hv] at hq
  exact hq
end
end Go.Proofs.YtmfgajbkcnlkcaaGreat.AI
namespace Go.Proofs.YtmfgajbkcnlkcaaGreat.EV
open Go Go.RowKit Go.Proofs.YtmfgajbkcnlkcaaGreatW.PrintWords
theorem w64_in (n : Int) (h0 : -9223372036854775808 ≤ n) (h1 : n ≤ 9223372036854775807) : wrap64 n = n := by unfold wrap64; omega
theorem w_succ {i n : Nat} (h : i < n) (hn : n ≤ 9223372036854775807) : wrap64 ((i : Int) + 1) = ((i + 1 : Nat) : Int) := by unfold wrap64; omega
theorem w_pred {i n : Nat} (h : i < n) (hp : 0 < i) (hn : n ≤ 9223372036854775807) : wrap64 ((i : Int) - 1) = ((i - 1 : Nat) : Int) := by unfold wrap64; omega
theorem Ev_one {α : Type} {g : Nat → Option α} {r : α} (h : ∀ k, g (k + 1) = some r) : Ev g r := ⟨1, fun k hk => by
  obtain ⟨k, rfl⟩ : ∃ m, k = m + 1 := ⟨k - 1, by omega⟩
  exact h k⟩
theorem Ev_all_k {α : Type} {g : Nat → Option α} {r : α} (h : ∀ k, g k = some r) : Ev g r := ⟨0, fun k _ => h k⟩
theorem Ev_bind {α β : Type} {g : Nat → Option α} {f : Nat → α → Option β} {a : α} {r : β} (h : Ev g a) (k : Ev (fun n => f n a) r) : Ev (fun n => (g n).bind (f n)) r := Ev.bind h k
theorem Ev_asks (l : Nat → Int → Option Bool) (n : Nat) (G : Nat → Prop) (fin : Bool) (h0 : Ev (fun k => l k (n : Int)) fin)
    (hs : ∀ i : Nat, i < n → (G i ∧ ∀ k, l (k + 1) (i : Int) = l k ((i + 1 : Nat) : Int)) ∨ (¬ G i ∧ ∀ k, l (k + 1) (i : Int) = some false)) :
    ∀ (d i : Nat), n - i = d → i ≤ n → ∃ r, Ev (fun k => l k (i : Int)) r ∧ (r = true ↔ (∀ j, i ≤ j → j < n → G j) ∧ fin = true) := by
  intro d
  induction d with
  | zero =>
    intro i hd hi
    obtain rfl : i = n := by omega
    exact ⟨fin, h0, ⟨fun h => ⟨fun j h1 h2 => by omega, h⟩, fun h => h.2⟩⟩
  | succ d ih =>
    intro i hd hi
    rcases hs i (by omega) with ⟨hg, he⟩ | ⟨hg, he⟩
    · obtain ⟨r, hr, hiff⟩ := ih (i + 1) (by omega) (by omega)
      refine ⟨r, Ev.step he hr, ?_⟩
      rw [hiff]
      constructor
      · rintro ⟨h1, h2⟩
        refine ⟨fun j h3 h4 => ?_, h2⟩
        rcases Nat.eq_or_lt_of_le h3 with h5 | h5
        · exact h5 ▸ hg
        · exact h1 j h5 h4
      · rintro ⟨h1, h2⟩
        exact ⟨fun j h3 h4 => h1 j (by omega) h4, h2⟩
    · refine ⟨false, Ev_one he, ⟨fun h => Bool.noConfusion h, fun h => absurd (h.1 i (Nat.le_refl _) (by omega)) hg⟩⟩
theorem Ev_goes {σ ρ : Type} (l : Nat → σ → Int → Option ρ) (n : Nat) (F : Nat → σ → ρ) (Inv : Nat → σ → Prop)
    (h0 : ∀ s, Inv n s → Ev (fun k => l k s (n : Int)) (F n s))
    (hs : ∀ (i : Nat) s, i < n → Inv i s → (Ev (fun k => l k s (i : Int)) (F i s)) ∨ ∃ s', Inv (i + 1) s' ∧ F (i + 1) s' = F i s ∧ ∀ k, l (k + 1) s (i : Int) = l k s' ((i + 1 : Nat) : Int)) :
    ∀ (d i : Nat) s, n - i = d → i ≤ n → Inv i s → Ev (fun k => l k s (i : Int)) (F i s) := by
  intro d
  induction d with
  | zero =>
    intro i s hd hi hinv
    obtain rfl : i = n := by omega
    exact h0 s hinv
  | succ d ih =>
    intro i s hd hi hinv
    rcases hs i s (by omega) hinv with h | ⟨s', h1, h2, h3⟩
    · exact h
    · exact h2 ▸ Ev.step h3 (ih (i + 1) s' (by omega) (by omega) h1)
theorem Ev_goes' {σ ρ : Type} (l : Nat → σ → Int → Option ρ) (n : Nat) (F : Nat → σ → ρ) (Inv : Nat → σ → Prop)
    (h0 : ∀ s, Inv n s → Ev (fun k => l k s (n : Int)) (F n s))
    (hs : ∀ (i : Nat) s, i < n → Inv i s → (Ev (fun k => l k s (i : Int)) (F i s)) ∨ ∃ s', Inv (i + 1) s' ∧ F (i + 1) s' = F i s ∧ ∀ r, Ev (fun k => l k s' ((i + 1 : Nat) : Int)) r → Ev (fun k => l k s (i : Int)) r) :
    ∀ (d i : Nat) s, n - i = d → i ≤ n → Inv i s → Ev (fun k => l k s (i : Int)) (F i s) := by
  intro d
  induction d with
  | zero =>
    intro i s hd hi hinv
    obtain rfl : i = n := by omega
    exact h0 s hinv
  | succ d ih =>
    intro i s hd hi hinv
    rcases hs i s (by omega) hinv with h | ⟨s', h1, h2, h3⟩
    · exact h
    · exact h2 ▸ h3 _ (ih (i + 1) s' (by omega) (by omega) h1)
theorem Ev_asks' (l : Nat → Int → Option Bool) (n : Nat) (G : Nat → Prop) (fin : Bool) (h0 : Ev (fun k => l k (n : Int)) fin)
    (hs : ∀ i : Nat, i < n → (G i ∧ ∀ r, Ev (fun k => l k ((i + 1 : Nat) : Int)) r → Ev (fun k => l k (i : Int)) r) ∨ (¬ G i ∧ Ev (fun k => l k (i : Int)) false)) :
    ∀ (d i : Nat), n - i = d → i ≤ n → ∃ r, Ev (fun k => l k (i : Int)) r ∧ (r = true ↔ (∀ j, i ≤ j → j < n → G j) ∧ fin = true) := by
  intro d
  induction d with
  | zero =>
    intro i hd hi
    obtain rfl : i = n := by omega
    exact ⟨fin, h0, ⟨fun h => ⟨fun j h1 h2 => by omega, h⟩, fun h => h.2⟩⟩
  | succ d ih =>
    intro i hd hi
    rcases hs i (by omega) with ⟨hg, he⟩ | ⟨hg, he⟩
    · obtain ⟨r, hr, hiff⟩ := ih (i + 1) (by omega) (by omega)
      refine ⟨r, he r hr, ?_⟩
      rw [hiff]
      constructor
      · rintro ⟨h1, h2⟩
        refine ⟨fun j h3 h4 => ?_, h2⟩
        rcases Nat.eq_or_lt_of_le h3 with h5 | h5
        · exact h5 ▸ hg
        · exact h1 j h5 h4
      · rintro ⟨h1, h2⟩
        exact ⟨fun j h3 h4 => h1 j (by omega) h4, h2⟩
    · exact ⟨false, he, ⟨fun h => Bool.noConfusion h, fun h => absurd (h.1 i (Nat.le_refl _) (by omega)) hg⟩⟩
theorem drop_getD {α : Type} (z : α) (l : List α) (i : Nat) (h : i < l.length) : l.drop i = l.getD i z :: l.drop (i + 1) := by
  rw [List.drop_eq_getElem_cons h, List.getD_eq_getElem?_getD, List.getElem?_eq_getElem h]
  rfl
theorem getD_set {α : Type} (l : List α) (i j : Nat) (x z : α) : (l.set i x).getD j z = if i = j ∧ j < l.length then x else l.getD j z := by
  rw [List.getD_eq_getElem?_getD, List.getElem?_set, List.getD_eq_getElem?_getD]
  by_cases h : i = j
  · subst h
    by_cases h2 : i < l.length
    · simp [h2]
    · simp [h2]
  · simp [h]
theorem ext_getD {α : Type} (z : α) {a b : List α} (hl : a.length = b.length) (h : ∀ i, i < a.length → a.getD i z = b.getD i z) : a = b := by
  apply List.ext_getElem hl
  intro i h1 h2
  have := h i h1
  rw [List.getD_eq_getElem?_getD, List.getD_eq_getElem?_getD, List.getElem?_eq_getElem h1, List.getElem?_eq_getElem h2] at this
  simpa using this
end Go.Proofs.YtmfgajbkcnlkcaaGreat.EV
namespace Go.Proofs.YtmfgajbkcnlkcaaGreat.I1
open Go Go.RowKit Go.Proofs.YtmfgajbkcnlkcaaGreat.P Go.Proofs.YtmfgajbkcnlkcaaGreatW.PrintWords Go.Proofs.YtmfgajbkcnlkcaaGreatW.PrintLast
theorem in_i (a lo hi : Int) : impl_in.f a lo hi = some (decide (lo ≤ a ∧ a ≤ hi)) := by
  unfold impl_in.f
  by_cases h : a ≥ lo
  · rw [if_pos h]
    congr 1
    rw [Bool.eq_iff_iff, decide_eq_true_iff, decide_eq_true_iff]
    omega
  · rw [if_neg h]
    congr 1
    symm
    rw [decide_eq_false_iff_not]
    omega
theorem in_s (a lo hi : Int) : spec_l1In.f a lo hi = some (decide (lo ≤ a ∧ a ≤ hi)) := by
  unfold spec_l1In.f
  by_cases h : a ≥ lo
  · rw [if_pos h]
    congr 1
    rw [Bool.eq_iff_iff, decide_eq_true_iff, decide_eq_true_iff]
    omega
  · rw [if_neg h]
    congr 1
    symm
    rw [decide_eq_false_iff_not]
    omega
end Go.Proofs.YtmfgajbkcnlkcaaGreat.I1
namespace Go.Proofs.YtmfgajbkcnlkcaaGreat.F1
open Go Go.RowKit Go.Proofs.YtmfgajbkcnlkcaaGreat.P Go.Proofs.YtmfgajbkcnlkcaaGreatW.PrintWords Go.Proofs.YtmfgajbkcnlkcaaGreatW.PrintLast Go.Proofs.YtmfgajbkcnlkcaaGreat.EV Go.Proofs.YtmfgajbkcnlkcaaGreat.I1
abbrev ST := S60
def No (a : Int) : Prop := 1 ≤ a ∧ a ≤ 1000
instance (a : Int) : Decidable (No a) := by unfold No; exact inferInstance
theorem no_s (a : Int) : spec_l3No.f a = some (decide (No a)) := by unfold spec_l3No.f; rw [in_s]; rfl
theorem no_i (a : Int) : impl_isNo.f a = some (decide (No a)) := by unfold impl_isNo.f; rw [in_i]; rfl
theorem rdT (l : List ST) (i : Nat) : rd_T60 l (i : Int) = l.getD i z60 := by unfold rd_T60; rw [Int.toNat_natCast]
def Amt1 (lo x : Int) : Prop := lo ≤ x ∧ x ≤ 1000000000000000
def Sta (x : Int) : Prop := 1 ≤ x ∧ x ≤ 3
instance (a lo : Int) : Decidable (Amt1 lo a) := by unfold Amt1; exact inferInstance
instance (a : Int) : Decidable (Sta a) := by unfold Sta; exact inferInstance
def Good (l : List ST) (i : Nat) : Prop :=
  No (l.getD i z60).f0 ∧ No (l.getD i z60).f1 ∧ No (l.getD i z60).f2 ∧ No (l.getD i z60).f3 ∧ No (l.getD i z60).f5 ∧ (l.getD i z60).f1 ≠ (l.getD i z60).f2 ∧
    Amt1 1 (l.getD i z60).f4 ∧ Amt1 0 (l.getD i z60).f6 ∧ Sta (l.getD i z60).f7 ∧ (0 < i → (l.getD (i - 1) z60).f0 < (l.getD i z60).f0)
theorem some_s (a lo : Int) : spec_l1Some.f a lo = some (decide (lo ≤ a ∧ a ≤ 1000000000000000)) := by
  unfold spec_l1Some.f
  first | (rw [in_s]; rfl) | (rw [in_s])
theorem amt_in (a lo : Int) : impl_in.f a lo 1000000000000000 = some (decide (Amt1 lo a)) := by rw [in_i]; rfl
theorem sta_in (a : Int) : impl_in.f a 1 3 = some (decide (Sta a)) := by rw [in_i]; rfl
theorem trades_s (l : List ST) (hl : l.length ≤ 9223372036854775807) : ∃ r, Ev (fun k => spec_TradesOk.f k l) r ∧ (r = true ↔ l.length ≤ 30 ∧ ∀ i, i < l.length → Good l i) := by
  unfold spec_TradesOk.f
  by_cases hn : (l.length : Int) > 30
  · exact ⟨false, Ev_all_k fun k => if_pos hn, ⟨fun h => Bool.noConfusion h, fun h => absurd h.1 (by omega)⟩⟩
  · obtain ⟨r, hr, hiff⟩ := Ev_asks (fun k i => spec_TradesOk.l0 k l i) l.length (Good l) true
      (Ev_one fun k => by simp only [spec_TradesOk.l0]; rw [if_neg (by omega)])
      (fun i hi => by
        obtain ⟨x, hx⟩ : ∃ x, l.getD i z60 = x := ⟨_, rfl⟩
        have e : ∀ k, spec_TradesOk.l0 (k + 1) l (i : Int) = if No x.f0 then (if No x.f1 then (if No x.f2 then (if No x.f3 then (if No x.f5 then (if x.f1 = x.f2 then some false else (if Amt1 1 x.f4 then (if Amt1 0 x.f6 then (if Sta x.f7 then (if (i : Int) > 0 then (if 0 ≤ wrap64 ((i : Int) - 1) then (if wrap64 ((i : Int) - 1) < (l.length : Int) then (if (rd_T60 l (wrap64 ((i : Int) - 1))).f0 ≥ x.f0 then some false else spec_TradesOk.l0 k l ((i + 1 : Nat) : Int)) else none) else none) else spec_TradesOk.l0 k l ((i + 1 : Nat) : Int)) else some false) else some false) else some false)) else some false) else some false) else some false) else some false) else some false := fun k => by
          simp only [spec_TradesOk.l0]
          rw [if_pos (by omega), if_pos (by omega), w_succ hi (by omega)]
          simp only [rdT, hx, no_s, some_s, in_s, Option.bind_some, decide_eq_true_iff]
          rfl
        unfold Good
        rw [hx]
        by_cases h0 : No x.f0
        · by_cases h1 : No x.f1
          · by_cases h2 : No x.f2
            · by_cases h3 : No x.f3
              · by_cases h5 : No x.f5
                · by_cases hne : x.f1 = x.f2
                  · exact .inr ⟨fun g => g.2.2.2.2.2.1 hne, fun k => by rw [e, if_pos h0, if_pos h1, if_pos h2, if_pos h3, if_pos h5, if_pos hne]⟩
                  · by_cases h4 : Amt1 1 x.f4
                    · by_cases h6 : Amt1 0 x.f6
                      · by_cases h7 : Sta x.f7
                        · by_cases hi0 : 0 < i
                          · by_cases hlt : (l.getD (i - 1) z60).f0 < x.f0
                            · refine .inl ⟨⟨h0, h1, h2, h3, h5, hne, h4, h6, h7, fun _ => hlt⟩, fun k => ?_⟩
                              show spec_TradesOk.l0 (k + 1) l (i : Int) = _
                              rw [e, if_pos h0, if_pos h1, if_pos h2, if_pos h3, if_pos h5, if_neg hne, if_pos h4, if_pos h6, if_pos h7, if_pos (by omega), w_pred hi hi0 (by omega), if_pos (by omega), if_pos (by omega), rdT, if_neg (by omega)]
                            · refine .inr ⟨fun g => hlt (g.2.2.2.2.2.2.2.2.2 hi0), fun k => ?_⟩
                              rw [e, if_pos h0, if_pos h1, if_pos h2, if_pos h3, if_pos h5, if_neg hne, if_pos h4, if_pos h6, if_pos h7, if_pos (by omega), w_pred hi hi0 (by omega), if_pos (by omega), if_pos (by omega), rdT, if_pos (by omega)]
                          · refine .inl ⟨⟨h0, h1, h2, h3, h5, hne, h4, h6, h7, fun g => absurd g hi0⟩, fun k => ?_⟩
                            show spec_TradesOk.l0 (k + 1) l (i : Int) = _
                            rw [e, if_pos h0, if_pos h1, if_pos h2, if_pos h3, if_pos h5, if_neg hne, if_pos h4, if_pos h6, if_pos h7, if_neg (by omega)]
                        · exact .inr ⟨fun g => h7 g.2.2.2.2.2.2.2.2.1, fun k => by rw [e, if_pos h0, if_pos h1, if_pos h2, if_pos h3, if_pos h5, if_neg hne, if_pos h4, if_pos h6, if_neg h7]⟩
                      · exact .inr ⟨fun g => h6 g.2.2.2.2.2.2.2.1, fun k => by rw [e, if_pos h0, if_pos h1, if_pos h2, if_pos h3, if_pos h5, if_neg hne, if_pos h4, if_neg h6]⟩
                    · exact .inr ⟨fun g => h4 g.2.2.2.2.2.2.1, fun k => by rw [e, if_pos h0, if_pos h1, if_pos h2, if_pos h3, if_pos h5, if_neg hne, if_neg h4]⟩
                · exact .inr ⟨fun g => h5 g.2.2.2.2.1, fun k => by rw [e, if_pos h0, if_pos h1, if_pos h2, if_pos h3, if_neg h5]⟩
              · exact .inr ⟨fun g => h3 g.2.2.2.1, fun k => by rw [e, if_pos h0, if_pos h1, if_pos h2, if_neg h3]⟩
            · exact .inr ⟨fun g => h2 g.2.2.1, fun k => by rw [e, if_pos h0, if_pos h1, if_neg h2]⟩
          · exact .inr ⟨fun g => h1 g.2.1, fun k => by rw [e, if_pos h0, if_neg h1]⟩
        · exact .inr ⟨fun g => h0 g.1, fun k => by rw [e, if_neg h0]⟩) l.length 0 (by omega) (by omega)
    refine ⟨r, Ev.congr (fun k => if_neg hn) hr, ?_⟩
    rw [hiff]
    exact ⟨fun h => ⟨by omega, fun i hi => h.1 i (Nat.zero_le _) hi⟩, fun h => ⟨fun i _ hi => h.2 i hi, rfl⟩⟩
theorem trades_i (l : List ST) (hl : l.length ≤ 9223372036854775807) : ∃ r, Ev (fun k => impl_TradesOk.f k l) r ∧ (r = true ↔ l.length ≤ 30 ∧ ∀ i, i < l.length → Good l i) := by
  unfold impl_TradesOk.f
  obtain ⟨r, hr, hiff⟩ := Ev_asks' (fun k i => impl_TradesOk.l0 k l l (l.length : Int) i) l.length (Good l) (decide ((l.length : Int) ≤ 30))
    (Ev_one fun k => by simp only [impl_TradesOk.l0]; rw [if_neg (by omega)])
    (fun i hi => by
      obtain ⟨x, hx⟩ : ∃ x, l.getD i z60 = x := ⟨_, rfl⟩
      have e : ∀ k, impl_TradesOk.l0 (k + 1) l l (l.length : Int) (i : Int) = impl_TradesOk.j1 k l (i : Int) l (l.length : Int) (i : Int) (!decide (No x.f0 ∧ No x.f1 ∧ No x.f2 ∧ No x.f3 ∧ No x.f5 ∧ x.f1 ≠ x.f2)) x.f0 x.f1 x.f2 x.f3 x.f4 x.f5 x.f6 x.f7 := fun k => by
        simp only [impl_TradesOk.l0]
        rw [if_pos (by omega), if_pos (by omega), if_pos (by omega)]
        simp only [rdT, hx, no_i, Option.bind_some, decide_eq_true_iff]
        by_cases h0 : No x.f0
        · by_cases h1 : No x.f1
          · by_cases h2 : No x.f2
            · by_cases h3 : No x.f3
              · by_cases h5 : No x.f5
                · by_cases hne : x.f1 = x.f2
                  · rw [if_pos h0, if_pos h1, if_pos h2, if_pos h3, if_pos h5, decide_eq_false (fun g : No x.f0 ∧ No x.f1 ∧ No x.f2 ∧ No x.f3 ∧ No x.f5 ∧ x.f1 ≠ x.f2 => g.2.2.2.2.2 hne), beq_iff_eq.2 hne]
                    rfl
                  · rw [if_pos h0, if_pos h1, if_pos h2, if_pos h3, if_pos h5, decide_eq_true (show No x.f0 ∧ No x.f1 ∧ No x.f2 ∧ No x.f3 ∧ No x.f5 ∧ x.f1 ≠ x.f2 from ⟨h0, h1, h2, h3, h5, hne⟩), beq_eq_false_iff_ne.2 hne]
                    rfl
                · rw [if_pos h0, if_pos h1, if_pos h2, if_pos h3, if_neg h5, decide_eq_false (fun g : No x.f0 ∧ No x.f1 ∧ No x.f2 ∧ No x.f3 ∧ No x.f5 ∧ x.f1 ≠ x.f2 => h5 g.2.2.2.2.1)]
                  rfl
              · rw [if_pos h0, if_pos h1, if_pos h2, if_neg h3, decide_eq_false (fun g : No x.f0 ∧ No x.f1 ∧ No x.f2 ∧ No x.f3 ∧ No x.f5 ∧ x.f1 ≠ x.f2 => h3 g.2.2.2.1)]
                rfl
            · rw [if_pos h0, if_pos h1, if_neg h2, decide_eq_false (fun g : No x.f0 ∧ No x.f1 ∧ No x.f2 ∧ No x.f3 ∧ No x.f5 ∧ x.f1 ≠ x.f2 => h2 g.2.2.1)]
              rfl
          · rw [if_pos h0, if_neg h1, decide_eq_false (fun g : No x.f0 ∧ No x.f1 ∧ No x.f2 ∧ No x.f3 ∧ No x.f5 ∧ x.f1 ≠ x.f2 => h1 g.2.1)]
            rfl
        · rw [if_neg h0, decide_eq_false (fun g : No x.f0 ∧ No x.f1 ∧ No x.f2 ∧ No x.f3 ∧ No x.f5 ∧ x.f1 ≠ x.f2 => h0 g.1)]
          rfl
      have e1 : ∀ k, impl_TradesOk.j1 (k + 1) l (i : Int) l (l.length : Int) (i : Int) false x.f0 x.f1 x.f2 x.f3 x.f4 x.f5 x.f6 x.f7 = if Amt1 1 x.f4 then (if Amt1 0 x.f6 then (if Sta x.f7 then (if (i : Int) > 0 then (if 0 ≤ wrap64 ((i : Int) - 1) then (if wrap64 ((i : Int) - 1) < (l.length : Int) then (if (rd_T60 l (wrap64 ((i : Int) - 1))).f0 ≥ x.f0 then some false else impl_TradesOk.l0 k l l (l.length : Int) ((i + 1 : Nat) : Int)) else none) else none) else impl_TradesOk.l0 k l l (l.length : Int) ((i + 1 : Nat) : Int)) else some false) else some false) else some false := fun k => by
        simp only [impl_TradesOk.j1]
        rw [if_neg (by decide), w_succ hi (by omega)]
        simp only [amt_in, sta_in, Option.bind_some, decide_eq_true_iff]
      unfold Good
      rw [hx]
      by_cases hA : No x.f0 ∧ No x.f1 ∧ No x.f2 ∧ No x.f3 ∧ No x.f5 ∧ x.f1 ≠ x.f2
      · rw [decide_eq_true hA] at e
        have stop : (∀ k, impl_TradesOk.j1 (k + 1) l (i : Int) l (l.length : Int) (i : Int) false x.f0 x.f1 x.f2 x.f3 x.f4 x.f5 x.f6 x.f7 = some false) → Ev (fun k => impl_TradesOk.l0 k l l (l.length : Int) (i : Int)) false := fun h => Ev.step e (Ev_one h)
        have go : (∀ k, impl_TradesOk.j1 (k + 1) l (i : Int) l (l.length : Int) (i : Int) false x.f0 x.f1 x.f2 x.f3 x.f4 x.f5 x.f6 x.f7 = impl_TradesOk.l0 k l l (l.length : Int) ((i + 1 : Nat) : Int)) → ∀ r, Ev (fun k => impl_TradesOk.l0 k l l (l.length : Int) ((i + 1 : Nat) : Int)) r → Ev (fun k => impl_TradesOk.l0 k l l (l.length : Int) (i : Int)) r := fun h r hr => Ev.step e (Ev.step h hr)
        obtain ⟨h0, h1, h2, h3, h5, hne⟩ := hA
        by_cases h4 : Amt1 1 x.f4
        · by_cases h6 : Amt1 0 x.f6
          · by_cases h7 : Sta x.f7
            · by_cases hi0 : 0 < i
              · by_cases hlt : (l.getD (i - 1) z60).f0 < x.f0
                · exact .inl ⟨⟨h0, h1, h2, h3, h5, hne, h4, h6, h7, fun _ => hlt⟩, go fun k => by rw [e1, if_pos h4, if_pos h6, if_pos h7, if_pos (by omega), w_pred hi hi0 (by omega), if_pos (by omega), if_pos (by omega), rdT, if_neg (by omega)]⟩
                · exact .inr ⟨fun g => hlt (g.2.2.2.2.2.2.2.2.2 hi0), stop fun k => by rw [e1, if_pos h4, if_pos h6, if_pos h7, if_pos (by omega), w_pred hi hi0 (by omega), if_pos (by omega), if_pos (by omega), rdT, if_pos (by omega)]⟩
              · exact .inl ⟨⟨h0, h1, h2, h3, h5, hne, h4, h6, h7, fun g => absurd g hi0⟩, go fun k => by rw [e1, if_pos h4, if_pos h6, if_pos h7, if_neg (by omega)]⟩
            · exact .inr ⟨fun g => h7 g.2.2.2.2.2.2.2.2.1, stop fun k => by rw [e1, if_pos h4, if_pos h6, if_neg h7]⟩
          · exact .inr ⟨fun g => h6 g.2.2.2.2.2.2.2.1, stop fun k => by rw [e1, if_pos h4, if_neg h6]⟩
        · exact .inr ⟨fun g => h4 g.2.2.2.2.2.2.1, stop fun k => by rw [e1, if_neg h4]⟩
      · rw [decide_eq_false hA] at e
        exact .inr ⟨fun g => hA ⟨g.1, g.2.1, g.2.2.1, g.2.2.2.1, g.2.2.2.2.1, g.2.2.2.2.2.1⟩, Ev.step e (Ev_one fun k => by
          show impl_TradesOk.j1 (k + 1) l (i : Int) l (l.length : Int) (i : Int) true x.f0 x.f1 x.f2 x.f3 x.f4 x.f5 x.f6 x.f7 = _
          simp only [impl_TradesOk.j1]
          rw [if_pos trivial])⟩) l.length 0 (by omega) (by omega)
  refine ⟨r, hr, ?_⟩
  rw [hiff, decide_eq_true_iff]
  exact ⟨fun h => ⟨by omega, fun i hi => h.1 i (Nat.zero_le _) hi⟩, fun h => ⟨fun i _ hi => h.2 i hi, by omega⟩⟩
theorem trades_both (l : List ST) (hl : l.length ≤ 9223372036854775807) : ∃ r, Ev (fun k => spec_TradesOk.f k l) r ∧ Ev (fun k => impl_TradesOk.f k l) r := by
  obtain ⟨r, hr, h1⟩ := trades_s l hl
  obtain ⟨s, hs, h2⟩ := trades_i l hl
  have e : r = s := by rw [Bool.eq_iff_iff, h1, h2]
  exact ⟨r, hr, by rw [e]; exact hs⟩
end Go.Proofs.YtmfgajbkcnlkcaaGreat.F1
namespace Go.Proofs.YtmfgajbkcnlkcaaGreat.T1
open Go Go.RowKit Go.Proofs.YtmfgajbkcnlkcaaGreat.P Go.Proofs.YtmfgajbkcnlkcaaGreatW.PrintWords Go.Proofs.YtmfgajbkcnlkcaaGreatW.PrintLast Go.Proofs.YtmfgajbkcnlkcaaGreat.EV
def cvAccount (x : S103) : S80 := ⟨x.f0, x.f1⟩
theorem sz_Account  (l : List S103) (left : Int) (h0 : 0 ≤ left) (h1 : left ≤ 1048576) (hm : l.length ≤ 9223372036854775807) : laws_szAccountS.f l left = some (if left < (l.length : Int) then -1 else left - l.length) := by
  unfold laws_szAccountS.f
  rw [w64_in _ (by omega) (by omega)]
  by_cases h : left < (l.length : Int)
  · rw [if_pos h, if_pos (by omega)]
  · rw [if_neg h, if_neg (by omega)]
theorem rd1_Account (l : List S103) (i : Nat) : rd_T103 l (i : Int) = l.getD i z103 := by unfold rd_T103; rw [Int.toNat_natCast]
theorem to_Account  (l : List S103) (hl : l.length ≤ 1048576) : Ev (fun k => laws_toAccountS.f k l) (l.map cvAccount) := by
  unfold laws_toAccountS.f
  have h := Ev_goes (fun k s i => laws_toAccountS.l0 k l s i) l.length (fun i s => s.take i ++ (l.drop i).map cvAccount) (fun i s => s.length = l.length)
    (fun s hs => Ev_one fun k => by
      simp only [laws_toAccountS.l0]
      rw [if_neg (by omega), List.drop_length, List.map_nil, List.append_nil, ← hs, List.take_length])
    (fun i s hi hs => .inr ⟨s.set i (cvAccount (l.getD i z103)), by rw [List.length_set]; exact hs, by
        rw [List.take_add_one, List.take_set_of_le (Nat.le_refl i), List.getElem?_set_self (by omega), List.drop_eq_getElem_cons hi, List.map_cons]
        have : l.getD i z103 = l[i] := by rw [List.getD_eq_getElem?_getD, List.getElem?_eq_getElem hi]; rfl
        rw [this]
        simp, fun k => by
        show laws_toAccountS.l0 (k + 1) l s (i : Int) = _
        simp only [laws_toAccountS.l0]
        rw [if_pos (by omega), if_pos (by omega), w_succ hi (by omega)]
        simp only [laws_toAccount.f, Option.bind_some, rd1_Account]
        rw [if_pos (by omega)]
        simp only [Int.toNat_natCast]
        rfl⟩) l.length 0 (List.replicate l.length z80) (by omega) (by omega) (by simp)
  refine Ev.congr (fun k => ?_) h
  rw [if_pos (by omega), if_pos (by omega)]
  rfl
theorem eq1_Account (x : S80) : laws_eqAccount.f x.f0 x.f1 x.f0 x.f1 = some true := by unfold laws_eqAccount.f; simp
theorem eq_Account (l : List S80) (hl : l.length ≤ 9223372036854775807) : Ev (fun k => laws_eqAccountS.f k l l) true := by
  unfold laws_eqAccountS.f
  obtain ⟨r, hr, hiff⟩ := Ev_asks (fun k i => laws_eqAccountS.l0 k l l i) l.length (fun _ => True) true
    (Ev_one fun k => by simp only [laws_eqAccountS.l0]; rw [if_neg (by omega)])
    (fun i hi => .inl ⟨trivial, fun k => by
      show laws_eqAccountS.l0 (k + 1) l l (i : Int) = _
      simp only [laws_eqAccountS.l0]
      rw [if_pos (by omega), if_pos (by omega), if_pos (by omega), w_succ hi (by omega)]
      simp only [eq1_Account, Option.bind_some, if_true]⟩) l.length 0 (by omega) (by omega)
  obtain rfl : r = true := hiff.2 ⟨fun _ _ _ => trivial, rfl⟩
  refine Ev.congr (fun k => ?_) hr
  rw [if_pos rfl]
  rfl
def cvInstr (x : S105) : S84 := ⟨x.f0, x.f1⟩
theorem sz_Instr  (l : List S105) (left : Int) (h0 : 0 ≤ left) (h1 : left ≤ 1048576) (hm : l.length ≤ 9223372036854775807) : laws_szInstrS.f l left = some (if left < (l.length : Int) then -1 else left - l.length) := by
  unfold laws_szInstrS.f
  rw [w64_in _ (by omega) (by omega)]
  by_cases h : left < (l.length : Int)
  · rw [if_pos h, if_pos (by omega)]
  · rw [if_neg h, if_neg (by omega)]
theorem rd1_Instr (l : List S105) (i : Nat) : rd_T105 l (i : Int) = l.getD i z105 := by unfold rd_T105; rw [Int.toNat_natCast]
theorem to_Instr  (l : List S105) (hl : l.length ≤ 1048576) : Ev (fun k => laws_toInstrS.f k l) (l.map cvInstr) := by
  unfold laws_toInstrS.f
  have h := Ev_goes (fun k s i => laws_toInstrS.l0 k l s i) l.length (fun i s => s.take i ++ (l.drop i).map cvInstr) (fun i s => s.length = l.length)
    (fun s hs => Ev_one fun k => by
      simp only [laws_toInstrS.l0]
      rw [if_neg (by omega), List.drop_length, List.map_nil, List.append_nil, ← hs, List.take_length])
    (fun i s hi hs => .inr ⟨s.set i (cvInstr (l.getD i z105)), by rw [List.length_set]; exact hs, by
        rw [List.take_add_one, List.take_set_of_le (Nat.le_refl i), List.getElem?_set_self (by omega), List.drop_eq_getElem_cons hi, List.map_cons]
        have : l.getD i z105 = l[i] := by rw [List.getD_eq_getElem?_getD, List.getElem?_eq_getElem hi]; rfl
        rw [this]
        simp, fun k => by
        show laws_toInstrS.l0 (k + 1) l s (i : Int) = _
        simp only [laws_toInstrS.l0]
        rw [if_pos (by omega), if_pos (by omega), w_succ hi (by omega)]
        simp only [laws_toInstr.f, Option.bind_some, rd1_Instr]
        rw [if_pos (by omega)]
        simp only [Int.toNat_natCast]
        rfl⟩) l.length 0 (List.replicate l.length z84) (by omega) (by omega) (by simp)
  refine Ev.congr (fun k => ?_) h
  rw [if_pos (by omega), if_pos (by omega)]
  rfl
theorem eq1_Instr (x : S84) : laws_eqInstr.f x.f0 x.f1 x.f0 x.f1 = some true := by unfold laws_eqInstr.f; simp
theorem eq_Instr (l : List S84) (hl : l.length ≤ 9223372036854775807) : Ev (fun k => laws_eqInstrS.f k l l) true := by
  unfold laws_eqInstrS.f
  obtain ⟨r, hr, hiff⟩ := Ev_asks (fun k i => laws_eqInstrS.l0 k l l i) l.length (fun _ => True) true
    (Ev_one fun k => by simp only [laws_eqInstrS.l0]; rw [if_neg (by omega)])
    (fun i hi => .inl ⟨trivial, fun k => by
      show laws_eqInstrS.l0 (k + 1) l l (i : Int) = _
      simp only [laws_eqInstrS.l0]
      rw [if_pos (by omega), if_pos (by omega), if_pos (by omega), w_succ hi (by omega)]
      simp only [eq1_Instr, Option.bind_some, if_true]⟩) l.length 0 (by omega) (by omega)
  obtain rfl : r = true := hiff.2 ⟨fun _ _ _ => trivial, rfl⟩
  refine Ev.congr (fun k => ?_) hr
  rw [if_pos rfl]
  rfl
def cvBal (x : S108) : S106 := ⟨x.f0, x.f1, x.f2⟩
theorem sz_Bal  (l : List S108) (left : Int) (h0 : 0 ≤ left) (h1 : left ≤ 1048576) (hm : l.length ≤ 9223372036854775807) : laws_szBalS.f l left = some (if left < (l.length : Int) then -1 else left - l.length) := by
  unfold laws_szBalS.f
  rw [w64_in _ (by omega) (by omega)]
  by_cases h : left < (l.length : Int)
  · rw [if_pos h, if_pos (by omega)]
  · rw [if_neg h, if_neg (by omega)]
theorem rd1_Bal (l : List S108) (i : Nat) : rd_T108 l (i : Int) = l.getD i z108 := by unfold rd_T108; rw [Int.toNat_natCast]
theorem to_Bal  (l : List S108) (hl : l.length ≤ 1048576) : Ev (fun k => laws_toBalS.f k l) (l.map cvBal) := by
  unfold laws_toBalS.f
  have h := Ev_goes (fun k s i => laws_toBalS.l0 k l s i) l.length (fun i s => s.take i ++ (l.drop i).map cvBal) (fun i s => s.length = l.length)
    (fun s hs => Ev_one fun k => by
      simp only [laws_toBalS.l0]
      rw [if_neg (by omega), List.drop_length, List.map_nil, List.append_nil, ← hs, List.take_length])
    (fun i s hi hs => .inr ⟨s.set i (cvBal (l.getD i z108)), by rw [List.length_set]; exact hs, by
        rw [List.take_add_one, List.take_set_of_le (Nat.le_refl i), List.getElem?_set_self (by omega), List.drop_eq_getElem_cons hi, List.map_cons]
        have : l.getD i z108 = l[i] := by rw [List.getD_eq_getElem?_getD, List.getElem?_eq_getElem hi]; rfl
        rw [this]
        simp, fun k => by
        show laws_toBalS.l0 (k + 1) l s (i : Int) = _
        simp only [laws_toBalS.l0]
        rw [if_pos (by omega), if_pos (by omega), w_succ hi (by omega)]
        simp only [laws_toBal.f, Option.bind_some, rd1_Bal]
        rw [if_pos (by omega)]
        simp only [Int.toNat_natCast]
        rfl⟩) l.length 0 (List.replicate l.length z106) (by omega) (by omega) (by simp)
  refine Ev.congr (fun k => ?_) h
  rw [if_pos (by omega), if_pos (by omega)]
  rfl
theorem eq1_Bal (x : S106) : laws_eqBal.f x.f0 x.f1 x.f2 x.f0 x.f1 x.f2 = some true := by unfold laws_eqBal.f; simp
theorem eq_Bal (l : List S106) (hl : l.length ≤ 9223372036854775807) : Ev (fun k => laws_eqBalS.f k l l) true := by
  unfold laws_eqBalS.f
  obtain ⟨r, hr, hiff⟩ := Ev_asks (fun k i => laws_eqBalS.l0 k l l i) l.length (fun _ => True) true
    (Ev_one fun k => by simp only [laws_eqBalS.l0]; rw [if_neg (by omega)])
    (fun i hi => .inl ⟨trivial, fun k => by
      show laws_eqBalS.l0 (k + 1) l l (i : Int) = _
      simp only [laws_eqBalS.l0]
      rw [if_pos (by omega), if_pos (by omega), if_pos (by omega), w_succ hi (by omega)]
      simp only [eq1_Bal, Option.bind_some, if_true]⟩) l.length 0 (by omega) (by omega)
  obtain rfl : r = true := hiff.2 ⟨fun _ _ _ => trivial, rfl⟩
  refine Ev.congr (fun k => ?_) hr
  rw [if_pos rfl]
  rfl
def cvLot (x : S112) : S110 := ⟨x.f0, x.f1, x.f2, x.f3, x.f4⟩
theorem sz_Lot  (l : List S112) (left : Int) (h0 : 0 ≤ left) (h1 : left ≤ 1048576) (hm : l.length ≤ 9223372036854775807) : laws_szLotS.f l left = some (if left < (l.length : Int) then -1 else left - l.length) := by
  unfold laws_szLotS.f
  rw [w64_in _ (by omega) (by omega)]
  by_cases h : left < (l.length : Int)
  · rw [if_pos h, if_pos (by omega)]
  · rw [if_neg h, if_neg (by omega)]
theorem rd1_Lot (l : List S112) (i : Nat) : rd_T112 l (i : Int) = l.getD i z112 := by unfold rd_T112; rw [Int.toNat_natCast]
theorem to_Lot  (l : List S112) (hl : l.length ≤ 1048576) : Ev (fun k => laws_toLotS.f k l) (l.map cvLot) := by
  unfold laws_toLotS.f
  have h := Ev_goes (fun k s i => laws_toLotS.l0 k l s i) l.length (fun i s => s.take i ++ (l.drop i).map cvLot) (fun i s => s.length = l.length)
    (fun s hs => Ev_one fun k => by
      simp only [laws_toLotS.l0]
      rw [if_neg (by omega), List.drop_length, List.map_nil, List.append_nil, ← hs, List.take_length])
    (fun i s hi hs => .inr ⟨s.set i (cvLot (l.getD i z112)), by rw [List.length_set]; exact hs, by
        rw [List.take_add_one, List.take_set_of_le (Nat.le_refl i), List.getElem?_set_self (by omega), List.drop_eq_getElem_cons hi, List.map_cons]
        have : l.getD i z112 = l[i] := by rw [List.getD_eq_getElem?_getD, List.getElem?_eq_getElem hi]; rfl
        rw [this]
        simp, fun k => by
        show laws_toLotS.l0 (k + 1) l s (i : Int) = _
        simp only [laws_toLotS.l0]
        rw [if_pos (by omega), if_pos (by omega), w_succ hi (by omega)]
        simp only [laws_toLot.f, Option.bind_some, rd1_Lot]
        rw [if_pos (by omega)]
        simp only [Int.toNat_natCast]
        rfl⟩) l.length 0 (List.replicate l.length z110) (by omega) (by omega) (by simp)
  refine Ev.congr (fun k => ?_) h
  rw [if_pos (by omega), if_pos (by omega)]
  rfl
theorem eq1_Lot (x : S110) : laws_eqLot.f x.f0 x.f1 x.f2 x.f3 x.f4 x.f0 x.f1 x.f2 x.f3 x.f4 = some true := by unfold laws_eqLot.f; simp
theorem eq_Lot (l : List S110) (hl : l.length ≤ 9223372036854775807) : Ev (fun k => laws_eqLotS.f k l l) true := by
  unfold laws_eqLotS.f
  obtain ⟨r, hr, hiff⟩ := Ev_asks (fun k i => laws_eqLotS.l0 k l l i) l.length (fun _ => True) true
    (Ev_one fun k => by simp only [laws_eqLotS.l0]; rw [if_neg (by omega)])
    (fun i hi => .inl ⟨trivial, fun k => by
      show laws_eqLotS.l0 (k + 1) l l (i : Int) = _
      simp only [laws_eqLotS.l0]
      rw [if_pos (by omega), if_pos (by omega), if_pos (by omega), w_succ hi (by omega)]
      simp only [eq1_Lot, Option.bind_some, if_true]⟩) l.length 0 (by omega) (by omega)
  obtain rfl : r = true := hiff.2 ⟨fun _ _ _ => trivial, rfl⟩
  refine Ev.congr (fun k => ?_) hr
  rw [if_pos rfl]
  rfl
def cvTrade (x : S114) : S60 := ⟨x.f0, x.f1, x.f2, x.f3, x.f4, x.f5, x.f6, x.f7⟩
theorem sz_Trade  (l : List S114) (left : Int) (h0 : 0 ≤ left) (h1 : left ≤ 1048576) (hm : l.length ≤ 9223372036854775807) : laws_szTradeS.f l left = some (if left < (l.length : Int) then -1 else left - l.length) := by
  unfold laws_szTradeS.f
  rw [w64_in _ (by omega) (by omega)]
  by_cases h : left < (l.length : Int)
  · rw [if_pos h, if_pos (by omega)]
  · rw [if_neg h, if_neg (by omega)]
theorem rd1_Trade (l : List S114) (i : Nat) : rd_T114 l (i : Int) = l.getD i z114 := by unfold rd_T114; rw [Int.toNat_natCast]
theorem to_Trade  (l : List S114) (hl : l.length ≤ 1048576) : Ev (fun k => laws_toTradeS.f k l) (l.map cvTrade) := by
  unfold laws_toTradeS.f
  have h := Ev_goes (fun k s i => laws_toTradeS.l0 k l s i) l.length (fun i s => s.take i ++ (l.drop i).map cvTrade) (fun i s => s.length = l.length)
    (fun s hs => Ev_one fun k => by
      simp only [laws_toTradeS.l0]
      rw [if_neg (by omega), List.drop_length, List.map_nil, List.append_nil, ← hs, List.take_length])
    (fun i s hi hs => .inr ⟨s.set i (cvTrade (l.getD i z114)), by rw [List.length_set]; exact hs, by
        rw [List.take_add_one, List.take_set_of_le (Nat.le_refl i), List.getElem?_set_self (by omega), List.drop_eq_getElem_cons hi, List.map_cons]
        have : l.getD i z114 = l[i] := by rw [List.getD_eq_getElem?_getD, List.getElem?_eq_getElem hi]; rfl
        rw [this]
        simp, fun k => by
        show laws_toTradeS.l0 (k + 1) l s (i : Int) = _
        simp only [laws_toTradeS.l0]
        rw [if_pos (by omega), if_pos (by omega), w_succ hi (by omega)]
        simp only [laws_toTrade.f, Option.bind_some, rd1_Trade]
        rw [if_pos (by omega)]
        simp only [Int.toNat_natCast]
        rfl⟩) l.length 0 (List.replicate l.length z60) (by omega) (by omega) (by simp)
  refine Ev.congr (fun k => ?_) h
  rw [if_pos (by omega), if_pos (by omega)]
  rfl
theorem eq1_Trade (x : S60) : laws_eqTrade.f x.f0 x.f1 x.f2 x.f3 x.f4 x.f5 x.f6 x.f7 x.f0 x.f1 x.f2 x.f3 x.f4 x.f5 x.f6 x.f7 = some true := by unfold laws_eqTrade.f; simp
theorem eq_Trade (l : List S60) (hl : l.length ≤ 9223372036854775807) : Ev (fun k => laws_eqTradeS.f k l l) true := by
  unfold laws_eqTradeS.f
  obtain ⟨r, hr, hiff⟩ := Ev_asks (fun k i => laws_eqTradeS.l0 k l l i) l.length (fun _ => True) true
    (Ev_one fun k => by simp only [laws_eqTradeS.l0]; rw [if_neg (by omega)])
    (fun i hi => .inl ⟨trivial, fun k => by
      show laws_eqTradeS.l0 (k + 1) l l (i : Int) = _
      simp only [laws_eqTradeS.l0]
      rw [if_pos (by omega), if_pos (by omega), if_pos (by omega), w_succ hi (by omega)]
      simp only [eq1_Trade, Option.bind_some, if_true]⟩) l.length 0 (by omega) (by omega)
  obtain rfl : r = true := hiff.2 ⟨fun _ _ _ => trivial, rfl⟩
  refine Ev.congr (fun k => ?_) hr
  rw [if_pos rfl]
  rfl
end Go.Proofs.YtmfgajbkcnlkcaaGreat.T1
namespace Go.Proofs.YtmfgajbkcnlkcaaGreat.T2
open Go Go.RowKit Go.Proofs.YtmfgajbkcnlkcaaGreat.P Go.Proofs.YtmfgajbkcnlkcaaGreatW.PrintWords Go.Proofs.YtmfgajbkcnlkcaaGreatW.PrintLast Go.Proofs.YtmfgajbkcnlkcaaGreat.EV Go.Proofs.YtmfgajbkcnlkcaaGreat.T1
section
variable (l0 : List S103) (l1 : List S105) (l2 : List S108) (l3 : List S112) (l4 : List S114) (d : Int)
theorem sz_Books (m0 : l0.length ≤ 9223372036854775807) (m1 : l1.length ≤ 9223372036854775807) (m2 : l2.length ≤ 9223372036854775807) (m3 : l3.length ≤ 9223372036854775807) (m4 : l4.length ≤ 9223372036854775807) :
    (∃ n : Int, n < 0 ∧ laws_szBooks.f l0 l1 l2 l3 l4 d 1048576 = some n) ∨ (l0.length ≤ 1048576 ∧ l1.length ≤ 1048576 ∧ l2.length ≤ 1048576 ∧ l3.length ≤ 1048576 ∧ l4.length ≤ 1048576 ∧ ∃ n : Int, 0 ≤ n ∧ laws_szBooks.f l0 l1 l2 l3 l4 d 1048576 = some n) := by
  unfold laws_szBooks.f
  rw [sz_Account l0 1048576 (by decide) (by decide) m0, Option.bind_some]
  by_cases c0 : (1048576 : Int) < (l0.length : Int)
  · rw [if_pos c0, if_pos (by decide)]
    exact .inl ⟨-1, by decide, rfl⟩
  rw [if_neg c0, if_neg (by omega), sz_Instr l1 _ (by omega) (by omega) m1, Option.bind_some]
  by_cases c1 : (1048576 : Int) - (l0.length : Int) < (l1.length : Int)
  · rw [if_pos c1, if_pos (by decide)]
    exact .inl ⟨-1, by decide, rfl⟩
  rw [if_neg c1, if_neg (by omega), sz_Bal l2 _ (by omega) (by omega) m2, Option.bind_some]
  by_cases c2 : (1048576 : Int) - (l0.length : Int) - (l1.length : Int) < (l2.length : Int)
  · rw [if_pos c2, if_pos (by decide)]
    exact .inl ⟨-1, by decide, rfl⟩
  rw [if_neg c2, if_neg (by omega), sz_Lot l3 _ (by omega) (by omega) m3, Option.bind_some]
  by_cases c3 : (1048576 : Int) - (l0.length : Int) - (l1.length : Int) - (l2.length : Int) < (l3.length : Int)
  · rw [if_pos c3, if_pos (by decide)]
    exact .inl ⟨-1, by decide, rfl⟩
  rw [if_neg c3, if_neg (by omega), sz_Trade l4 _ (by omega) (by omega) m4, Option.bind_some]
  by_cases c4 : (1048576 : Int) - (l0.length : Int) - (l1.length : Int) - (l2.length : Int) - (l3.length : Int) < (l4.length : Int)
  · rw [if_pos c4, if_pos (by decide)]
    exact .inl ⟨-1, by decide, rfl⟩
  rw [if_neg c4, if_neg (by omega)]
  exact .inr ⟨by omega, by omega, by omega, by omega, by omega, _, by omega, rfl⟩
theorem to_Books (m0 : l0.length ≤ 1048576) (m1 : l1.length ≤ 1048576) (m2 : l2.length ≤ 1048576) (m3 : l3.length ≤ 1048576) (m4 : l4.length ≤ 1048576) :
    Ev (fun k => laws_toBooks.f k l0 l1 l2 l3 l4 d) (l0.map cvAccount, l1.map cvInstr, l2.map cvBal, l3.map cvLot, l4.map cvTrade, d) := by
  unfold laws_toBooks.f
  exact Ev_bind (to_Account l0 m0) (Ev_bind (to_Instr l1 m1) (Ev_bind (to_Bal l2 m2) (Ev_bind (to_Lot l3 m3) (Ev_bind (to_Trade l4 m4) (Ev.now _)))))
end
theorem eq_Books (A : List S80) (I : List S84) (B : List S106) (L : List S110) (T : List S60) (d : Int) (m0 : A.length ≤ 9223372036854775807) (m1 : I.length ≤ 9223372036854775807) (m2 : B.length ≤ 9223372036854775807) (m3 : L.length ≤ 9223372036854775807) (m4 : T.length ≤ 9223372036854775807) :
    Ev (fun k => laws_eqBooks.f k A I B L T d A I B L T d) true := by
  unfold laws_eqBooks.f
  exact Ev_bind (eq_Account A m0) (Ev.congr (fun k => if_pos rfl) (Ev_bind (eq_Instr I m1) (Ev.congr (fun k => if_pos rfl) (Ev_bind (eq_Bal B m2) (Ev.congr (fun k => if_pos rfl) (Ev_bind (eq_Lot L m3) (Ev.congr (fun k => if_pos rfl) (Ev_bind (eq_Trade T m4) (Ev.congr (fun k => if_pos rfl) (Ev_all_k fun k => if_pos rfl))))))))))
end Go.Proofs.YtmfgajbkcnlkcaaGreat.T2
namespace Go.Proofs.YtmfgajbkcnlkcaaGreat.N1
open Go Go.RowKit Go.Proofs.YtmfgajbkcnlkcaaGreat.P Go.Proofs.YtmfgajbkcnlkcaaGreatW.PrintWords Go.Proofs.YtmfgajbkcnlkcaaGreatW.PrintLast Go.Proofs.YtmfgajbkcnlkcaaGreat.EV Go.Proofs.YtmfgajbkcnlkcaaGreat.I1
def No (a : Int) : Prop := 1 ≤ a ∧ a ≤ 1000
def Amt (a : Int) : Prop := -1000000000000000 ≤ a ∧ a ≤ 1000000000000000
instance (a : Int) : Decidable (No a) := by unfold No; exact inferInstance
instance (a : Int) : Decidable (Amt a) := by unfold Amt; exact inferInstance
theorem no_s (a : Int) : spec_l3No.f a = some (decide (No a)) := by unfold spec_l3No.f; rw [in_s]; rfl
theorem no_i (a : Int) : impl_isNo.f a = some (decide (No a)) := by unfold impl_isNo.f; rw [in_i]; rfl
theorem amt_s (a : Int) : spec_AmountOk.f a = some (decide (Amt a)) := by unfold spec_AmountOk.f; rw [in_s]; rfl
theorem amt_i (a : Int) : impl_AmountOk.f a = some (decide (Amt a)) := by unfold impl_AmountOk.f; rw [in_i]; rfl
end Go.Proofs.YtmfgajbkcnlkcaaGreat.N1
namespace Go.Proofs.YtmfgajbkcnlkcaaGreat.C1
open Go Go.RowKit Go.Proofs.YtmfgajbkcnlkcaaGreat.P Go.Proofs.YtmfgajbkcnlkcaaGreatW.PrintWords Go.Proofs.YtmfgajbkcnlkcaaGreatW.PrintLast Go.Proofs.YtmfgajbkcnlkcaaGreat.EV Go.Proofs.YtmfgajbkcnlkcaaGreat.I1
theorem no_s (a : Int) : spec_l3No.f a = some (decide (1 ≤ a ∧ a ≤ 1000)) := by unfold spec_l3No.f; rw [in_s]; rfl
theorem no_i (a : Int) : impl_isNo.f a = some (decide (1 ≤ a ∧ a ≤ 1000)) := by unfold impl_isNo.f; rw [in_i]; rfl
def GoodA (l : List S80) (j : Nat) : Prop :=
  (1 ≤ (l.getD j z80).f0 ∧ (l.getD j z80).f0 ≤ 1000) ∧ (1 ≤ (l.getD j z80).f1 ∧ (l.getD j z80).f1 ≤ 4) ∧ (0 < j → (l.getD (j - 1) z80).f0 < (l.getD j z80).f0)
def OkA (l : List S80) : Prop := l.length ≤ 20 ∧ ∀ j, j < l.length → GoodA l j
noncomputable def okA (l : List S80) : Bool := @decide (OkA l) (Classical.propDecidable _)
theorem okA_iff (l : List S80) : okA l = true ↔ OkA l := by unfold okA; exact @decide_eq_true_iff _ (Classical.propDecidable _)
theorem rdA (l : List S80) (i : Nat) : rd_T80 l (i : Int) = l.getD i z80 := by unfold rd_T80; rw [Int.toNat_natCast]
theorem accountsOk_s (l : List S80) : Ev (fun k => spec_AccountsOk.f k l) (okA l) := by
  unfold spec_AccountsOk.f
  by_cases hn : (l.length : Int) > 20
  · have : okA l = false := by
      rw [Bool.eq_false_iff, Ne, okA_iff]
      intro h
      have := h.1
      omega
    rw [this]
    exact Ev_all_k fun k => by rw [if_pos hn]
  · obtain ⟨r, hr, hiff⟩ := Ev_asks (fun k i => spec_AccountsOk.l0 k l i) l.length (GoodA l) true
      (Ev_one fun k => by simp only [spec_AccountsOk.l0]; rw [if_neg (by omega)])
      (fun i hi => by
        have e : ∀ k, spec_AccountsOk.l0 (k + 1) l (i : Int) = if (1 ≤ (l.getD i z80).f0 ∧ (l.getD i z80).f0 ≤ 1000) then (if (1 ≤ (l.getD i z80).f1 ∧ (l.getD i z80).f1 ≤ 4) then (if 0 < i then (if (l.getD (i - 1) z80).f0 < (l.getD i z80).f0 then spec_AccountsOk.l0 k l ((i + 1 : Nat) : Int) else some false) else spec_AccountsOk.l0 k l ((i + 1 : Nat) : Int)) else some false) else some false := by
          intro k
          simp only [spec_AccountsOk.l0]
          rw [if_pos (by omega), if_pos (by omega)]
          rw [w_succ hi (by omega)]
          by_cases h0 : 0 < i
          · rw [w_pred hi h0 (by omega)]
            simp only [no_s, in_s, Option.bind_some, decide_eq_true_iff, rdA]
            split
            · split
              · rw [if_pos (by omega), if_pos (by omega), if_pos (by omega)]
                split
                · rw [if_neg (by omega)]
                · rw [if_pos (by omega)]
              · rfl
            · rfl
          · simp only [no_s, in_s, Option.bind_some, decide_eq_true_iff, rdA]
            split
            · split
              · rw [if_neg (by omega)]
              · rfl
            · rfl
        by_cases hg : GoodA l i
        · refine .inl ⟨hg, fun k => ?_⟩
          show spec_AccountsOk.l0 (k + 1) l (i : Int) = _
          rw [e k, if_pos hg.1, if_pos hg.2.1]
          split
          · rename_i h0
            rw [if_pos (hg.2.2 h0)]
          · rfl
        · refine .inr ⟨hg, fun k => ?_⟩
          show spec_AccountsOk.l0 (k + 1) l (i : Int) = _
          rw [e k]
          unfold GoodA at hg
          split
          · rename_i h1
            split
            · rename_i h2
              split
              · rename_i h3
                rw [if_neg (fun h4 => hg ⟨h1, h2, fun _ => h4⟩)]
              · rename_i h3
                exact absurd ⟨h1, h2, fun h4 => absurd h4 h3⟩ hg
            · rfl
          · rfl) l.length 0 (by omega) (by omega)
    have hq : r = okA l := by
      rw [Bool.eq_iff_iff, hiff, okA_iff]
      exact ⟨fun h => ⟨by omega, fun j hj => h.1 j (Nat.zero_le _) hj⟩, fun h => ⟨fun j _ hj => h.2 j hj, rfl⟩⟩
    subst hq
    exact Ev.congr (fun k => by rw [if_neg hn]; rfl) hr
theorem accountsOk_i (l : List S80) (hm : l.length ≤ 9223372036854775807) : Ev (fun k => impl_AccountsOk.f k l) (okA l) := by
  unfold impl_AccountsOk.f
  obtain ⟨r, hr, hiff⟩ := Ev_asks (fun k i => impl_AccountsOk.l0 k l l (l.length : Int) i) l.length (GoodA l) (decide ((l.length : Int) ≤ 20))
      (Ev_one fun k => by simp only [impl_AccountsOk.l0]; rw [if_neg (by omega)])
      (fun i hi => by
        have e : ∀ k, impl_AccountsOk.l0 (k + 1) l l (l.length : Int) (i : Int) = if (1 ≤ (l.getD i z80).f0 ∧ (l.getD i z80).f0 ≤ 1000) then (if (1 ≤ (l.getD i z80).f1 ∧ (l.getD i z80).f1 ≤ 4) then (if 0 < i then (if (l.getD (i - 1) z80).f0 < (l.getD i z80).f0 then impl_AccountsOk.l0 k l l (l.length : Int) ((i + 1 : Nat) : Int) else some false) else impl_AccountsOk.l0 k l l (l.length : Int) ((i + 1 : Nat) : Int)) else some false) else some false := by
          intro k
          simp only [impl_AccountsOk.l0]
          rw [if_pos (by omega), if_pos (by omega), if_pos (by omega)]
          rw [w_succ hi (by omega)]
          by_cases h0 : 0 < i
          · rw [w_pred hi h0 (by omega)]
            simp only [no_i, in_i, Option.bind_some, decide_eq_true_iff, rdA]
            split
            · split
              · rw [if_pos (by omega), if_pos (by omega), if_pos (by omega)]
                split
                · rw [if_neg (by omega)]
                · rw [if_pos (by omega)]
              · rfl
            · rfl
          · simp only [no_i, in_i, Option.bind_some, decide_eq_true_iff, rdA]
            split
            · split
              · rw [if_neg (by omega)]
              · rfl
            · rfl
        by_cases hg : GoodA l i
        · refine .inl ⟨hg, fun k => ?_⟩
          show impl_AccountsOk.l0 (k + 1) l l (l.length : Int) (i : Int) = _
          rw [e k, if_pos hg.1, if_pos hg.2.1]
          split
          · rename_i h0
            rw [if_pos (hg.2.2 h0)]
          · rfl
        · refine .inr ⟨hg, fun k => ?_⟩
          show impl_AccountsOk.l0 (k + 1) l l (l.length : Int) (i : Int) = _
          rw [e k]
          unfold GoodA at hg
          split
          · rename_i h1
            split
            · rename_i h2
              split
              · rename_i h3
                rw [if_neg (fun h4 => hg ⟨h1, h2, fun _ => h4⟩)]
              · rename_i h3
                exact absurd ⟨h1, h2, fun h4 => absurd h4 h3⟩ hg
            · rfl
          · rfl) l.length 0 (by omega) (by omega)
  have hq : r = okA l := by
    rw [Bool.eq_iff_iff, hiff, okA_iff, decide_eq_true_iff]
    exact ⟨fun h => ⟨by omega, fun j hj => h.1 j (Nat.zero_le _) hj⟩, fun h => ⟨fun j _ hj => h.2 j hj, by have := h.1; omega⟩⟩
  subst hq
  exact hr
def GoodI (l : List S84) (j : Nat) : Prop :=
  (1 ≤ (l.getD j z84).f0 ∧ (l.getD j z84).f0 ≤ 1000) ∧ (1 ≤ (l.getD j z84).f1 ∧ (l.getD j z84).f1 ≤ 2) ∧ (0 < j → (l.getD (j - 1) z84).f0 < (l.getD j z84).f0)
def OkI (l : List S84) : Prop := l.length ≤ 8 ∧ ∀ j, j < l.length → GoodI l j
noncomputable def okI (l : List S84) : Bool := @decide (OkI l) (Classical.propDecidable _)
theorem okI_iff (l : List S84) : okI l = true ↔ OkI l := by unfold okI; exact @decide_eq_true_iff _ (Classical.propDecidable _)
theorem rdI (l : List S84) (i : Nat) : rd_T84 l (i : Int) = l.getD i z84 := by unfold rd_T84; rw [Int.toNat_natCast]
theorem instrsOk_s (l : List S84) : Ev (fun k => spec_InstrsOk.f k l) (okI l) := by
  unfold spec_InstrsOk.f
  by_cases hn : (l.length : Int) > 8
  · have : okI l = false := by
      rw [Bool.eq_false_iff, Ne, okI_iff]
      intro h
      have := h.1
      omega
    rw [this]
    exact Ev_all_k fun k => by rw [if_pos hn]
  · obtain ⟨r, hr, hiff⟩ := Ev_asks (fun k i => spec_InstrsOk.l0 k l i) l.length (GoodI l) true
      (Ev_one fun k => by simp only [spec_InstrsOk.l0]; rw [if_neg (by omega)])
      (fun i hi => by
        have e : ∀ k, spec_InstrsOk.l0 (k + 1) l (i : Int) = if (1 ≤ (l.getD i z84).f0 ∧ (l.getD i z84).f0 ≤ 1000) then (if (1 ≤ (l.getD i z84).f1 ∧ (l.getD i z84).f1 ≤ 2) then (if 0 < i then (if (l.getD (i - 1) z84).f0 < (l.getD i z84).f0 then spec_InstrsOk.l0 k l ((i + 1 : Nat) : Int) else some false) else spec_InstrsOk.l0 k l ((i + 1 : Nat) : Int)) else some false) else some false := by
          intro k
          simp only [spec_InstrsOk.l0]
          rw [if_pos (by omega), if_pos (by omega)]
          rw [w_succ hi (by omega)]
          by_cases h0 : 0 < i
          · rw [w_pred hi h0 (by omega)]
            simp only [no_s, in_s, Option.bind_some, decide_eq_true_iff, rdI]
            split
            · split
              · rw [if_pos (by omega), if_pos (by omega), if_pos (by omega)]
                split
                · rw [if_neg (by omega)]
                · rw [if_pos (by omega)]
              · rfl
            · rfl
          · simp only [no_s, in_s, Option.bind_some, decide_eq_true_iff, rdI]
            split
            · split
              · rw [if_neg (by omega)]
              · rfl
            · rfl
        by_cases hg : GoodI l i
        · refine .inl ⟨hg, fun k => ?_⟩
          show spec_InstrsOk.l0 (k + 1) l (i : Int) = _
          rw [e k, if_pos hg.1, if_pos hg.2.1]
          split
          · rename_i h0
            rw [if_pos (hg.2.2 h0)]
          · rfl
        · refine .inr ⟨hg, fun k => ?_⟩
          show spec_InstrsOk.l0 (k + 1) l (i : Int) = _
          rw [e k]
          unfold GoodI at hg
          split
          · rename_i h1
            split
            · rename_i h2
              split
              · rename_i h3
                rw [if_neg (fun h4 => hg ⟨h1, h2, fun _ => h4⟩)]
              · rename_i h3
                exact absurd ⟨h1, h2, fun h4 => absurd h4 h3⟩ hg
            · rfl
          · rfl) l.length 0 (by omega) (by omega)
    have hq : r = okI l := by
      rw [Bool.eq_iff_iff, hiff, okI_iff]
      exact ⟨fun h => ⟨by omega, fun j hj => h.1 j (Nat.zero_le _) hj⟩, fun h => ⟨fun j _ hj => h.2 j hj, rfl⟩⟩
    subst hq
    exact Ev.congr (fun k => by rw [if_neg hn]; rfl) hr
theorem instrsOk_i (l : List S84) (hm : l.length ≤ 9223372036854775807) : Ev (fun k => impl_InstrsOk.f k l) (okI l) := by
  unfold impl_InstrsOk.f
  obtain ⟨r, hr, hiff⟩ := Ev_asks (fun k i => impl_InstrsOk.l0 k l l (l.length : Int) i) l.length (GoodI l) (decide ((l.length : Int) ≤ 8))
      (Ev_one fun k => by simp only [impl_InstrsOk.l0]; rw [if_neg (by omega)])
      (fun i hi => by
        have e : ∀ k, impl_InstrsOk.l0 (k + 1) l l (l.length : Int) (i : Int) = if (1 ≤ (l.getD i z84).f0 ∧ (l.getD i z84).f0 ≤ 1000) then (if (1 ≤ (l.getD i z84).f1 ∧ (l.getD i z84).f1 ≤ 2) then (if 0 < i then (if (l.getD (i - 1) z84).f0 < (l.getD i z84).f0 then impl_InstrsOk.l0 k l l (l.length : Int) ((i + 1 : Nat) : Int) else some false) else impl_InstrsOk.l0 k l l (l.length : Int) ((i + 1 : Nat) : Int)) else some false) else some false := by
          intro k
          simp only [impl_InstrsOk.l0]
          rw [if_pos (by omega), if_pos (by omega), if_pos (by omega)]
          rw [w_succ hi (by omega)]
          by_cases h0 : 0 < i
          · rw [w_pred hi h0 (by omega)]
            simp only [no_i, in_i, Option.bind_some, decide_eq_true_iff, rdI]
            split
            · split
              · rw [if_pos (by omega), if_pos (by omega), if_pos (by omega)]
                split
                · rw [if_neg (by omega)]
                · rw [if_pos (by omega)]
              · rfl
            · rfl
          · simp only [no_i, in_i, Option.bind_some, decide_eq_true_iff, rdI]
            split
            · split
              · rw [if_neg (by omega)]
              · rfl
            · rfl
        by_cases hg : GoodI l i
        · refine .inl ⟨hg, fun k => ?_⟩
          show impl_InstrsOk.l0 (k + 1) l l (l.length : Int) (i : Int) = _
          rw [e k, if_pos hg.1, if_pos hg.2.1]
          split
          · rename_i h0
            rw [if_pos (hg.2.2 h0)]
          · rfl
        · refine .inr ⟨hg, fun k => ?_⟩
          show impl_InstrsOk.l0 (k + 1) l l (l.length : Int) (i : Int) = _
          rw [e k]
          unfold GoodI at hg
          split
          · rename_i h1
            split
            · rename_i h2
              split
              · rename_i h3
                rw [if_neg (fun h4 => hg ⟨h1, h2, fun _ => h4⟩)]
              · rename_i h3
                exact absurd ⟨h1, h2, fun h4 => absurd h4 h3⟩ hg
            · rfl
          · rfl) l.length 0 (by omega) (by omega)
  have hq : r = okI l := by
    rw [Bool.eq_iff_iff, hiff, okI_iff, decide_eq_true_iff]
    exact ⟨fun h => ⟨by omega, fun j hj => h.1 j (Nat.zero_le _) hj⟩, fun h => ⟨fun j _ hj => h.2 j hj, by have := h.1; omega⟩⟩
  subst hq
  exact hr
end Go.Proofs.YtmfgajbkcnlkcaaGreat.C1
namespace Go.Proofs.YtmfgajbkcnlkcaaGreat.C2
open Go Go.RowKit Go.Proofs.YtmfgajbkcnlkcaaGreat.P Go.Proofs.YtmfgajbkcnlkcaaGreatW.PrintWords Go.Proofs.YtmfgajbkcnlkcaaGreatW.PrintLast Go.Proofs.YtmfgajbkcnlkcaaGreat.EV Go.Proofs.YtmfgajbkcnlkcaaGreat.I1 Go.Proofs.YtmfgajbkcnlkcaaGreat.C1
def kindA : List S80 → Int → Int
  | [], _ => 0
  | x :: l, no => if x.f0 = no then x.f1 else kindA l no
theorem kindL_i (l : List S80) (no : Int) (hm : l.length ≤ 9223372036854775807) : Ev (fun k => impl_accountKind.f k l no) (kindA l no) := by
  unfold impl_accountKind.f
  have h := Ev_goes (fun k (_ : Unit) i => impl_accountKind.l0 k no l (l.length : Int) i) l.length (fun i _ => kindA (l.drop i) no) (fun _ _ => True)
    (fun s hs => Ev_one fun k => by
      simp only [impl_accountKind.l0]
      rw [if_neg (by omega), List.drop_length]
      rfl)
    (fun i s hi _ => by
      have hd : l.drop i = l.getD i z80 :: l.drop (i + 1) := by
        rw [List.drop_eq_getElem_cons hi, List.getD_eq_getElem?_getD, List.getElem?_eq_getElem hi]
        rfl
      have e : ∀ k, impl_accountKind.l0 (k + 1) no l (l.length : Int) (i : Int) = if (l.getD i z80).f0 = no then some (l.getD i z80).f1 else impl_accountKind.l0 k no l (l.length : Int) ((i + 1 : Nat) : Int) := by
        intro k
        simp only [impl_accountKind.l0]
        rw [if_pos (by omega), if_pos (by omega), if_pos (by omega), w_succ hi (by omega)]
        simp only [rdA]
      by_cases hq : (l.getD i z80).f0 = no
      · refine .inl (Ev_one fun k => ?_)
        show impl_accountKind.l0 (k + 1) no l (l.length : Int) (i : Int) = some (kindA (l.drop i) no)
        rw [e, if_pos hq, hd]
        unfold kindA
        rw [if_pos hq]
      · refine .inr ⟨(), trivial, ?_, fun k => ?_⟩
        · show kindA (l.drop (i + 1)) no = kindA (l.drop i) no
          rw [hd]
          conv => rhs; unfold kindA
          rw [if_neg hq]
        · show impl_accountKind.l0 (k + 1) no l (l.length : Int) (i : Int) = _
          rw [e, if_neg hq]) l.length 0 () (by omega) (by omega) trivial
  exact h
noncomputable def kindOkA (l : List S80) (no : Int) : Int := if okA l = true then kindA l no else 0
theorem kindOkA_s (l : List S80) (no : Int) (hm : l.length ≤ 9223372036854775807) : Ev (fun k => spec_AccountKind.f k l no) (kindOkA l no) := by
  unfold spec_AccountKind.f
  have h := Ev_goes' (fun k (_ : Unit) i => spec_AccountKind.l0 k l no i) l.length (fun i _ => if okA l = true then kindA (l.drop i) no else 0) (fun _ _ => True)
    (fun s hs => by
      refine Ev.step (f := fun k => spec_AccountKind.j1 k l no (l.length : Int) false) (fun k => ?_) (Ev_one fun k => ?_)
      · simp only [spec_AccountKind.l0]
        rw [if_neg (by omega)]
      · simp only [spec_AccountKind.j1]
        rw [if_neg (by decide), List.drop_length]
        split <;> rfl)
    (fun i s hi _ => by
      have hd := drop_getD z80 l i hi
      have e0 : ∀ k, spec_AccountKind.l0 (k + 1) l no (i : Int) = (spec_AccountsOk.f k l).bind fun t => spec_AccountKind.j1 k l no (i : Int) t := by
        intro k
        simp only [spec_AccountKind.l0]
        rw [if_pos (by omega)]
      cases hok : okA l with
      | false =>
        left
        refine Ev.step e0 (Ev_bind (accountsOk_s l) ?_)
        rw [hok, if_neg (by decide)]
        exact Ev_one fun k => by simp only [spec_AccountKind.j1]; rw [if_neg (by decide)]
      | true =>
        have e1 : ∀ k, spec_AccountKind.j1 (k + 1) l no (i : Int) true = if (l.getD i z80).f0 = no then some (l.getD i z80).f1 else spec_AccountKind.l0 k l no ((i + 1 : Nat) : Int) := by
          intro k
          simp only [spec_AccountKind.j1]
          rw [if_pos trivial, if_pos (by omega), if_pos (by omega), w_succ hi (by omega)]
          simp only [rdA]
        by_cases hq : (l.getD i z80).f0 = no
        · left
          refine Ev.step e0 (Ev_bind (accountsOk_s l) ?_)
          rw [hok, if_pos rfl, hd]
          unfold kindA
          rw [if_pos hq]
          exact Ev_one fun k => by rw [e1, if_pos hq]
        · refine .inr ⟨(), trivial, ?_, fun r hr => ?_⟩
          · rw [if_pos rfl, if_pos rfl, hd]
            conv => rhs; unfold kindA
            rw [if_neg hq]
          · refine Ev.step e0 (Ev_bind (accountsOk_s l) ?_)
            rw [hok]
            exact Ev.step (fun k => by rw [e1, if_neg hq]) hr) l.length 0 () (by omega) (by omega) trivial
  exact h
def kindI : List S84 → Int → Int
  | [], _ => 0
  | x :: l, no => if x.f0 = no then x.f1 else kindI l no
theorem kindM_i (l : List S84) (no : Int) (hm : l.length ≤ 9223372036854775807) : Ev (fun k => impl_instrKind.f k l no) (kindI l no) := by
  unfold impl_instrKind.f
  have h := Ev_goes (fun k (_ : Unit) i => impl_instrKind.l0 k no l (l.length : Int) i) l.length (fun i _ => kindI (l.drop i) no) (fun _ _ => True)
    (fun s hs => Ev_one fun k => by
      simp only [impl_instrKind.l0]
      rw [if_neg (by omega), List.drop_length]
      rfl)
    (fun i s hi _ => by
      have hd : l.drop i = l.getD i z84 :: l.drop (i + 1) := by
        rw [List.drop_eq_getElem_cons hi, List.getD_eq_getElem?_getD, List.getElem?_eq_getElem hi]
        rfl
      have e : ∀ k, impl_instrKind.l0 (k + 1) no l (l.length : Int) (i : Int) = if (l.getD i z84).f0 = no then some (l.getD i z84).f1 else impl_instrKind.l0 k no l (l.length : Int) ((i + 1 : Nat) : Int) := by
        intro k
        simp only [impl_instrKind.l0]
        rw [if_pos (by omega), if_pos (by omega), if_pos (by omega), w_succ hi (by omega)]
        simp only [rdI]
      by_cases hq : (l.getD i z84).f0 = no
      · refine .inl (Ev_one fun k => ?_)
        show impl_instrKind.l0 (k + 1) no l (l.length : Int) (i : Int) = some (kindI (l.drop i) no)
        rw [e, if_pos hq, hd]
        unfold kindI
        rw [if_pos hq]
      · refine .inr ⟨(), trivial, ?_, fun k => ?_⟩
        · show kindI (l.drop (i + 1)) no = kindI (l.drop i) no
          rw [hd]
          conv => rhs; unfold kindI
          rw [if_neg hq]
        · show impl_instrKind.l0 (k + 1) no l (l.length : Int) (i : Int) = _
          rw [e, if_neg hq]) l.length 0 () (by omega) (by omega) trivial
  exact h
noncomputable def kindOkI (l : List S84) (no : Int) : Int := if okI l = true then kindI l no else 0
theorem kindOkI_s (l : List S84) (no : Int) (hm : l.length ≤ 9223372036854775807) : Ev (fun k => spec_InstrKind.f k l no) (kindOkI l no) := by
  unfold spec_InstrKind.f
  have h := Ev_goes' (fun k (_ : Unit) i => spec_InstrKind.l0 k l no i) l.length (fun i _ => if okI l = true then kindI (l.drop i) no else 0) (fun _ _ => True)
    (fun s hs => by
      refine Ev.step (f := fun k => spec_InstrKind.j1 k l no (l.length : Int) false) (fun k => ?_) (Ev_one fun k => ?_)
      · simp only [spec_InstrKind.l0]
        rw [if_neg (by omega)]
      · simp only [spec_InstrKind.j1]
        rw [if_neg (by decide), List.drop_length]
        split <;> rfl)
    (fun i s hi _ => by
      have hd := drop_getD z84 l i hi
      have e0 : ∀ k, spec_InstrKind.l0 (k + 1) l no (i : Int) = (spec_InstrsOk.f k l).bind fun t => spec_InstrKind.j1 k l no (i : Int) t := by
        intro k
        simp only [spec_InstrKind.l0]
        rw [if_pos (by omega)]
      cases hok : okI l with
      | false =>
        left
        refine Ev.step e0 (Ev_bind (instrsOk_s l) ?_)
        rw [hok, if_neg (by decide)]
        exact Ev_one fun k => by simp only [spec_InstrKind.j1]; rw [if_neg (by decide)]
      | true =>
        have e1 : ∀ k, spec_InstrKind.j1 (k + 1) l no (i : Int) true = if (l.getD i z84).f0 = no then some (l.getD i z84).f1 else spec_InstrKind.l0 k l no ((i + 1 : Nat) : Int) := by
          intro k
          simp only [spec_InstrKind.j1]
          rw [if_pos trivial, if_pos (by omega), if_pos (by omega), w_succ hi (by omega)]
          simp only [rdI]
        by_cases hq : (l.getD i z84).f0 = no
        · left
          refine Ev.step e0 (Ev_bind (instrsOk_s l) ?_)
          rw [hok, if_pos rfl, hd]
          unfold kindI
          rw [if_pos hq]
          exact Ev_one fun k => by rw [e1, if_pos hq]
        · refine .inr ⟨(), trivial, ?_, fun r hr => ?_⟩
          · rw [if_pos rfl, if_pos rfl, hd]
            conv => rhs; unfold kindI
            rw [if_neg hq]
          · refine Ev.step e0 (Ev_bind (instrsOk_s l) ?_)
            rw [hok]
            exact Ev.step (fun k => by rw [e1, if_neg hq]) hr) l.length 0 () (by omega) (by omega) trivial
  exact h
end Go.Proofs.YtmfgajbkcnlkcaaGreat.C2
namespace Go.Proofs.YtmfgajbkcnlkcaaGreat.B1
open Go Go.RowKit Go.Proofs.YtmfgajbkcnlkcaaGreat.P Go.Proofs.YtmfgajbkcnlkcaaGreatW.PrintWords Go.Proofs.YtmfgajbkcnlkcaaGreatW.PrintLast Go.Proofs.YtmfgajbkcnlkcaaGreat.EV Go.Proofs.YtmfgajbkcnlkcaaGreat.I1 Go.Proofs.YtmfgajbkcnlkcaaGreat.N1
def Bef (a b c d : Int) : Prop := a < c ∨ (a = c ∧ b < d)
instance (a b c d : Int) : Decidable (Bef a b c d) := by unfold Bef; exact inferInstance
def cmp (a b c d : Int) : Int := if Bef a b c d then -1 else (if a = c ∧ b = d then 0 else 1)
theorem before_s (a b c d : Int) : spec_l4Before.f a b c d = some (decide (Bef a b c d)) := by
  unfold spec_l4Before.f
  by_cases h : a < c
  · rw [if_pos h, decide_eq_true (show Bef a b c d from .inl h)]
  · rw [if_neg h]
    by_cases h2 : a = c
    · rw [if_pos h2]
      congr 1
      rw [Bool.eq_iff_iff, decide_eq_true_iff, decide_eq_true_iff]
      exact ⟨fun g => .inr ⟨h2, g⟩, fun g => g.elim (fun g => absurd g h) (fun g => g.2)⟩
    · rw [if_neg h2, decide_eq_false (show ¬ Bef a b c d from fun g => g.elim h fun g => h2 g.1)]
theorem both_i (a b c d : Int) : Ev (fun k => impl_byBoth.f k a b c d) (cmp a b c d) := by
  unfold impl_byBoth.f
  have yes : Bef a b c d → Ev (fun k => impl_byBoth.j0 k a b c d true) (cmp a b c d) := fun h => Ev_one fun k => by
    simp only [impl_byBoth.j0]
    rw [if_pos trivial]
    unfold cmp
    rw [if_pos h]
  have no : ¬ Bef a b c d → Ev (fun k => impl_byBoth.j0 k a b c d false) (cmp a b c d) := fun h => Ev_one fun k => by
    simp only [impl_byBoth.j0]
    rw [if_neg (by decide)]
    unfold cmp
    rw [if_neg h]
    by_cases h1 : a = c
    · by_cases h2 : b = d
      · rw [if_pos h1, if_pos h2, if_pos ⟨h1, h2⟩]
      · rw [if_pos h1, if_neg h2, if_neg fun g => h2 g.2]
    · rw [if_neg h1, if_neg fun g => h1 g.1]
  by_cases h : a < c
  · exact Ev.congr (fun k => by rw [if_pos h]) (yes (.inl h))
  · by_cases h2 : a = c
    · by_cases h3 : b < d
      · exact Ev.congr (fun k => by rw [if_neg h, if_pos h2, decide_eq_true h3]) (yes (.inr ⟨h2, h3⟩))
      · exact Ev.congr (fun k => by rw [if_neg h, if_pos h2, decide_eq_false h3]) (no fun g => g.elim h fun g => h3 g.2)
    · exact Ev.congr (fun k => by rw [if_neg h, if_neg h2]) (no fun g => g.elim h fun g => h2 g.1)
theorem cmp_neg {a b c d : Int} : cmp a b c d ≥ 0 ↔ ¬ Bef a b c d := by
  unfold cmp
  by_cases h : Bef a b c d
  · rw [if_pos h]
    exact ⟨fun g => absurd g (by decide), fun g => absurd h g⟩
  · rw [if_neg h]
    refine ⟨fun _ => h, fun _ => ?_⟩
    split <;> decide
theorem cmp_zero {a b c d : Int} : cmp a b c d = 0 ↔ a = c ∧ b = d := by
  unfold cmp
  by_cases h : Bef a b c d
  · rw [if_pos h]
    refine ⟨fun g => absurd g (by decide), fun g => ?_⟩
    unfold Bef at h
    omega
  · rw [if_neg h]
    by_cases h2 : a = c ∧ b = d
    · rw [if_pos h2]; exact ⟨fun _ => h2, fun _ => rfl⟩
    · rw [if_neg h2]; exact ⟨fun g => absurd g (by decide), fun g => absurd g h2⟩
theorem rdB (l : List S106) (i : Nat) : rd_T106 l (i : Int) = l.getD i z106 := by unfold rd_T106; rw [Int.toNat_natCast]
def GoodB (l : List S106) (j : Nat) : Prop :=
  No (l.getD j z106).f0 ∧ No (l.getD j z106).f1 ∧ Amt (l.getD j z106).f2 ∧ (l.getD j z106).f2 ≠ 0 ∧ (0 < j → Bef (l.getD (j - 1) z106).f0 (l.getD (j - 1) z106).f1 (l.getD j z106).f0 (l.getD j z106).f1)
def OkB (l : List S106) : Prop := l.length ≤ 160 ∧ ∀ j, j < l.length → GoodB l j
noncomputable def okB (l : List S106) : Bool := @decide (OkB l) (Classical.propDecidable _)
theorem okB_iff (l : List S106) : okB l = true ↔ OkB l := by unfold okB; exact @decide_eq_true_iff _ (Classical.propDecidable _)
theorem okB_no {l : List S106} (h : ¬ OkB l) : okB l = false := by rw [Bool.eq_false_iff, Ne, okB_iff]; exact h
theorem balsOk_s (l : List S106) : Ev (fun k => spec_BalsOk.f k l) (okB l) := by
  unfold spec_BalsOk.f
  by_cases hn : (l.length : Int) > 160
  · rw [okB_no fun h => by have := h.1; omega]
    exact Ev_all_k fun k => by rw [if_pos hn]
  · obtain ⟨r, hr, hiff⟩ := Ev_asks (fun k i => spec_BalsOk.l0 k l i) l.length (GoodB l) true
      (Ev_one fun k => by simp only [spec_BalsOk.l0]; rw [if_neg (by omega)])
      (fun i hi => by
        have e : ∀ k, spec_BalsOk.l0 (k + 1) l (i : Int) = if No (l.getD i z106).f0 then (if No (l.getD i z106).f1 then (if Amt (l.getD i z106).f2 then (if (l.getD i z106).f2 = 0 then some false else (if 0 < i then (if Bef (l.getD (i - 1) z106).f0 (l.getD (i - 1) z106).f1 (l.getD i z106).f0 (l.getD i z106).f1 then spec_BalsOk.l0 k l ((i + 1 : Nat) : Int) else some false) else spec_BalsOk.l0 k l ((i + 1 : Nat) : Int))) else some false) else some false) else some false := by
          intro k
          simp only [spec_BalsOk.l0]
          rw [if_pos (by omega), if_pos (by omega), w_succ hi (by omega)]
          by_cases h0 : 0 < i
          · rw [w_pred hi h0 (by omega)]
            simp only [no_s, amt_s, before_s, Option.bind_some, decide_eq_true_iff, rdB]
            simp only [if_pos (show (i : Int) > 0 by omega), if_pos (show (0 : Int) ≤ ((i - 1 : Nat) : Int) by omega), if_pos (show ((i - 1 : Nat) : Int) < (l.length : Int) by omega), if_pos h0]
          · simp only [no_s, amt_s, before_s, Option.bind_some, decide_eq_true_iff, rdB]
            simp only [if_neg (show ¬ (i : Int) > 0 by omega), if_neg h0]
        by_cases hg : GoodB l i
        · refine .inl ⟨hg, fun k => ?_⟩
          obtain ⟨g1, g2, g3, g4, g5⟩ := hg
          show spec_BalsOk.l0 (k + 1) l (i : Int) = _
          rw [e k, if_pos g1, if_pos g2, if_pos g3, if_neg g4]
          split
          · rename_i h0
            rw [if_pos (g5 h0)]
          · rfl
        · refine .inr ⟨hg, fun k => ?_⟩
          show spec_BalsOk.l0 (k + 1) l (i : Int) = _
          rw [e k]
          unfold GoodB at hg
          split
          · rename_i h1
            split
            · rename_i h2
              split
              · rename_i h3
                split
                · rfl
                · rename_i h4
                  split
                  · rw [if_neg (fun h6 => hg ⟨h1, h2, h3, h4, fun _ => h6⟩)]
                  · rename_i h5
                    exact absurd ⟨h1, h2, h3, h4, fun h6 => absurd h6 h5⟩ hg
              · rfl
            · rfl
          · rfl) l.length 0 (by omega) (by omega)
    have hq : r = okB l := by
      rw [Bool.eq_iff_iff, hiff, okB_iff]
      exact ⟨fun h => ⟨by omega, fun j hj => h.1 j (Nat.zero_le _) hj⟩, fun h => ⟨fun j _ hj => h.2 j hj, rfl⟩⟩
    subst hq
    exact Ev.congr (fun k => by rw [if_neg hn]; rfl) hr
theorem balsOk_i (l : List S106) (hm : l.length ≤ 9223372036854775807) : Ev (fun k => impl_BalsOk.f k l) (okB l) := by
  unfold impl_BalsOk.f
  obtain ⟨r, hr, hiff⟩ := Ev_asks' (fun k i => impl_BalsOk.l0 k l l (l.length : Int) i) l.length (GoodB l) (decide ((l.length : Int) ≤ 160))
      (Ev_one fun k => by simp only [impl_BalsOk.l0]; rw [if_neg (by omega)])
      (fun i hi => by
        -- the round's first part: what it asks of the balance itself
        have e : ∀ k, impl_BalsOk.l0 (k + 1) l l (l.length : Int) (i : Int) = impl_BalsOk.j1 k l (i : Int) l (l.length : Int) (i : Int) (!decide (No (l.getD i z106).f0 ∧ No (l.getD i z106).f1 ∧ Amt (l.getD i z106).f2 ∧ (l.getD i z106).f2 ≠ 0)) (l.getD i z106).f0 (l.getD i z106).f1 (l.getD i z106).f2 := by
          intro k
          simp only [impl_BalsOk.l0]
          rw [if_pos (by omega), if_pos (by omega), if_pos (by omega)]
          simp only [no_i, amt_i, Option.bind_some, decide_eq_true_iff, rdB]
          by_cases h1 : No (l.getD i z106).f0
          · by_cases h2 : No (l.getD i z106).f1
            · by_cases h3 : Amt (l.getD i z106).f2
              · rw [if_pos h1, if_pos h2, if_pos h3]
                congr 1
                by_cases h4 : (l.getD i z106).f2 = 0
                · rw [decide_eq_false (fun g => g.2.2.2 h4), h4]; rfl
                · rw [decide_eq_true (show _ ∧ _ from ⟨h1, h2, h3, h4⟩)]; simpa using h4
              · rw [if_pos h1, if_pos h2, if_neg h3, decide_eq_false (fun g => h3 g.2.2.1)]; rfl
            · rw [if_pos h1, if_neg h2, decide_eq_false (fun g => h2 g.2.1)]; rfl
          · rw [if_neg h1, decide_eq_false (fun g => h1 g.1)]; rfl
        by_cases hw : No (l.getD i z106).f0 ∧ No (l.getD i z106).f1 ∧ Amt (l.getD i z106).f2 ∧ (l.getD i z106).f2 ≠ 0
        · by_cases h0 : 0 < i
          · have e2 : ∀ k, impl_BalsOk.j1 (k + 1) l (i : Int) l (l.length : Int) (i : Int) false (l.getD i z106).f0 (l.getD i z106).f1 (l.getD i z106).f2 = (impl_byBoth.f k (l.getD (i - 1) z106).f0 (l.getD (i - 1) z106).f1 (l.getD i z106).f0 (l.getD i z106).f1).bind fun t => if t ≥ 0 then some false else impl_BalsOk.l0 k l l (l.length : Int) ((i + 1 : Nat) : Int) := by
              intro k
              simp only [impl_BalsOk.j1]
              rw [if_neg (by decide), if_pos (by omega), w_pred hi h0 (by omega), if_pos (by omega), if_pos (by omega), w_succ hi (by omega)]
              simp only [rdB]
            by_cases hb : Bef (l.getD (i - 1) z106).f0 (l.getD (i - 1) z106).f1 (l.getD i z106).f0 (l.getD i z106).f1
            · refine .inl ⟨⟨hw.1, hw.2.1, hw.2.2.1, hw.2.2.2, fun _ => hb⟩, fun r hr => ?_⟩
              refine Ev.step (fun k => by rw [e k, decide_eq_true hw]) (Ev.step e2 (Ev_bind (both_i _ _ _ _) ?_))
              exact Ev.congr (fun k => by rw [if_neg (fun g => cmp_neg.1 g hb)]) hr
            · refine .inr ⟨fun g => hb (g.2.2.2.2 h0), ?_⟩
              refine Ev.step (fun k => by rw [e k, decide_eq_true hw]) (Ev.step e2 (Ev_bind (both_i _ _ _ _) ?_))
              exact Ev_all_k fun k => by rw [if_pos (cmp_neg.2 hb)]
          · refine .inl ⟨⟨hw.1, hw.2.1, hw.2.2.1, hw.2.2.2, fun g => absurd g h0⟩, fun r hr => ?_⟩
            refine Ev.step (fun k => by rw [e k, decide_eq_true hw]) (Ev.step (fun k => ?_) hr)
            show impl_BalsOk.j1 (k + 1) l (i : Int) l (l.length : Int) (i : Int) false _ _ _ = _
            simp only [impl_BalsOk.j1]
            rw [if_neg (by decide), if_neg (by omega), w_succ hi (by omega)]
        · refine .inr ⟨fun g => hw ⟨g.1, g.2.1, g.2.2.1, g.2.2.2.1⟩, ?_⟩
          refine Ev.step (fun k => by rw [e k, decide_eq_false hw]) (Ev_one fun k => ?_)
          show impl_BalsOk.j1 (k + 1) l (i : Int) l (l.length : Int) (i : Int) true _ _ _ = _
          simp only [impl_BalsOk.j1]
          rw [if_pos trivial]) l.length 0 (by omega) (by omega)
  have hq : r = okB l := by
    rw [Bool.eq_iff_iff, hiff, okB_iff, decide_eq_true_iff]
    exact ⟨fun h => ⟨by omega, fun j hj => h.1 j (Nat.zero_le _) hj⟩, fun h => ⟨fun j _ hj => h.2 j hj, by have := h.1; omega⟩⟩
  subst hq
  exact hr
end Go.Proofs.YtmfgajbkcnlkcaaGreat.B1
namespace Go.Proofs.YtmfgajbkcnlkcaaGreat.B2
open Go Go.RowKit Go.Proofs.YtmfgajbkcnlkcaaGreat.P Go.Proofs.YtmfgajbkcnlkcaaGreatW.PrintWords Go.Proofs.YtmfgajbkcnlkcaaGreatW.PrintLast Go.Proofs.YtmfgajbkcnlkcaaGreat.EV Go.Proofs.YtmfgajbkcnlkcaaGreat.I1 Go.Proofs.YtmfgajbkcnlkcaaGreat.N1 Go.Proofs.YtmfgajbkcnlkcaaGreat.B1
abbrev SB := S106
def ofB (a b : Int) : List SB → Int
  | [] => 0
  | x :: l => if x.f0 = a ∧ x.f1 = b then x.f2 else ofB a b l
theorem ofB_drop (a b : Int) (l : List SB) (i : Nat) (hi : i < l.length) : ofB a b (l.drop i) = if (l.getD i z106).f0 = a ∧ (l.getD i z106).f1 = b then (l.getD i z106).f2 else ofB a b (l.drop (i + 1)) := by
  rw [drop_getD z106 l i hi]; rfl
theorem of_s (l : List SB) (a b : Int) (hm : l.length ≤ 9223372036854775807) : Ev (fun k => spec_l4Of.f k l a b) (ofB a b l) := by
  unfold spec_l4Of.f
  have h := Ev_goes (fun k (_ : Unit) i => spec_l4Of.l0 k l a b i) l.length (fun i _ => ofB a b (l.drop i)) (fun _ _ => True)
    (fun _ _ => Ev_one fun k => by
      simp only [spec_l4Of.l0]
      rw [if_neg (by omega), List.drop_length]
      rfl)
    (fun i _ hi _ => by
      by_cases h : (l.getD i z106).f0 = a ∧ (l.getD i z106).f1 = b
      · refine .inl (Ev_one fun k => ?_)
        simp only [spec_l4Of.l0, rdB]
        rw [if_pos (by omega), if_pos (by omega), if_pos h.1, if_pos h.2, ofB_drop a b l i hi, if_pos h]
      · refine .inr ⟨(), trivial, by show ofB a b (l.drop (i + 1)) = ofB a b (l.drop i); rw [ofB_drop a b l i hi, if_neg h], fun k => ?_⟩
        show spec_l4Of.l0 (k + 1) l a b (i : Int) = _
        simp only [spec_l4Of.l0, rdB]
        rw [if_pos (by omega), if_pos (by omega), w_succ hi (by omega)]
        by_cases h1 : (l.getD i z106).f0 = a
        · rw [if_pos h1, if_neg fun h2 => h ⟨h1, h2⟩]
        · rw [if_neg h1]) l.length 0 () (by omega) (by omega) trivial
  rw [List.drop_zero] at h
  exact h
theorem ahead {l : List SB} (h : ∀ j, j < l.length → GoodB l j) : ∀ (d i j : Nat), j - i = d → i < j → j < l.length → Bef (l.getD i z106).f0 (l.getD i z106).f1 (l.getD j z106).f0 (l.getD j z106).f1 := by
  intro d
  induction d with
  | zero => intro i j h1 h2; omega
  | succ d ih =>
    intro i j hd hi hj
    have g := (h j hj).2.2.2.2 (by omega)
    rcases Nat.lt_or_ge i (j - 1) with h2 | h2
    · have g2 := ih i (j - 1) (by omega) h2 (by omega)
      unfold Bef at *
      omega
    · obtain rfl : i = j - 1 := by omega
      exact g
theorem ofB_none (a b : Int) : ∀ (l : List SB), (∀ x ∈ l, ¬ (x.f0 = a ∧ x.f1 = b)) → ofB a b l = 0
  | [], _ => rfl
  | x :: l, h => by
    unfold ofB
    rw [if_neg (h x List.mem_cons_self)]
    exact ofB_none a b l fun y hy => h y (List.mem_cons_of_mem _ hy)
theorem mem_drop {l : List SB} {i : Nat} {x : SB} (h : x ∈ l.drop i) : ∃ j, i ≤ j ∧ j < l.length ∧ l.getD j z106 = x := by
  obtain ⟨j, hj, rfl⟩ := List.getElem_of_mem h
  rw [List.length_drop] at hj
  refine ⟨i + j, by omega, by omega, ?_⟩
  rw [List.getD_eq_getElem?_getD, List.getElem?_eq_getElem (by omega), List.getElem_drop]
  rfl
def atB (a b : Int) : List SB → Nat → Nat × Bool
  | [], i => (i, false)
  | x :: l, i => if cmp x.f0 x.f1 a b ≥ 0 then (i, cmp x.f0 x.f1 a b == 0) else atB a b l (i + 1)
theorem atB_drop (a b : Int) (l : List SB) (i : Nat) (hi : i < l.length) : atB a b (l.drop i) i = if cmp (l.getD i z106).f0 (l.getD i z106).f1 a b ≥ 0 then (i, cmp (l.getD i z106).f0 (l.getD i z106).f1 a b == 0) else atB a b (l.drop (i + 1)) (i + 1) := by
  rw [drop_getD z106 l i hi]; rfl
theorem atB_range (a b : Int) : ∀ (l : List SB) (i : Nat), i ≤ (atB a b l i).1 ∧ (atB a b l i).1 ≤ i + l.length ∧ ((atB a b l i).2 = true → (atB a b l i).1 < i + l.length)
  | [], i => by unfold atB; simp
  | x :: l, i => by
    unfold atB
    have := atB_range a b l (i + 1)
    rw [List.length_cons]
    split
    · exact ⟨Nat.le_refl _, by show i ≤ _; omega, fun _ => by show i < _; omega⟩
    · exact ⟨by omega, by omega, fun h => by have := this.2.2 h; omega⟩
theorem at_i (l : List SB) (a b : Int) (hm : l.length ≤ 9223372036854775807) : Ev (fun k => impl_balAt.f k l a b) (((atB a b l 0).1 : Int), (atB a b l 0).2) := by
  unfold impl_balAt.f
  have h := Ev_goes' (fun k (_ : Unit) i => impl_balAt.l0 k l a b l (l.length : Int) i) l.length (fun i _ => (((atB a b (l.drop i) i).1 : Int), (atB a b (l.drop i) i).2)) (fun _ _ => True)
    (fun _ _ => Ev_one fun k => by
      simp only [impl_balAt.l0]
      rw [if_neg (by omega), List.drop_length]
      rfl)
    (fun i _ hi _ => by
      have e : ∀ k, impl_balAt.l0 (k + 1) l a b l (l.length : Int) (i : Int) = (impl_byBoth.f k (l.getD i z106).f0 (l.getD i z106).f1 a b).bind fun t => if t ≥ 0 then some ((i : Int), t == 0) else impl_balAt.l0 k l a b l (l.length : Int) ((i + 1 : Nat) : Int) := by
        intro k
        simp only [impl_balAt.l0, rdB]
        rw [if_pos (by omega), if_pos (by omega), if_pos (by omega), w_succ hi (by omega)]
      by_cases h : cmp (l.getD i z106).f0 (l.getD i z106).f1 a b ≥ 0
      · refine .inl (Ev.step e (Ev_bind (both_i _ _ _ _) (Ev_all_k fun k => ?_)))
        rw [if_pos h, atB_drop a b l i hi, if_pos h]
      · refine .inr ⟨(), trivial, by show (((atB a b (l.drop (i + 1)) (i + 1)).1 : Int), (atB a b (l.drop (i + 1)) (i + 1)).2) = (((atB a b (l.drop i) i).1 : Int), (atB a b (l.drop i) i).2); rw [atB_drop a b l i hi, if_neg h], fun r hr => ?_⟩
        exact Ev.step e (Ev_bind (both_i _ _ _ _) (Ev.congr (fun k => by rw [if_neg h]) hr))) l.length 0 () (by omega) (by omega) trivial
  rw [List.drop_zero] at h
  exact h
theorem at_of {l : List SB} (h : ∀ j, j < l.length → GoodB l j) (a b : Int) : ∀ (d i : Nat), l.length - i = d → i ≤ l.length → (if (atB a b (l.drop i) i).2 = true then (l.getD (atB a b (l.drop i) i).1 z106).f2 else 0) = ofB a b (l.drop i) := by
  intro d
  induction d with
  | zero =>
    intro i hd hi
    obtain rfl : i = l.length := by omega
    rw [List.drop_length]
    rfl
  | succ d ih =>
    intro i hd hi
    have hi2 : i < l.length := by omega
    rw [atB_drop a b l i hi2, ofB_drop a b l i hi2]
    by_cases h1 : cmp (l.getD i z106).f0 (l.getD i z106).f1 a b ≥ 0
    · rw [if_pos h1]
      by_cases h2 : (l.getD i z106).f0 = a ∧ (l.getD i z106).f1 = b
      · rw [if_pos h2, cmp_zero.2 h2]
        rfl
      · rw [if_neg h2, if_neg (by simp only [beq_iff_eq]; rw [cmp_zero]; exact h2)]
        symm
        apply ofB_none
        intro x hx
        obtain ⟨j, hj1, hj2, rfl⟩ := mem_drop hx
        have g := ahead h (j - i) i j rfl (by omega) hj2
        have g2 := cmp_neg.1 h1
        unfold Bef at g g2
        omega
    · rw [if_neg h1, ih (i + 1) (by omega) (by omega)]
      rw [if_neg]
      intro h2
      exact h1 (by rw [cmp_zero.2 h2]; decide)
theorem of_i {l : List SB} (h : OkB l) (a b : Int) : Ev (fun k => impl_balOf.f k l a b) (ofB a b l) := by
  unfold impl_balOf.f
  have h1 := h.1
  refine Ev_bind (at_i l a b (by omega)) ?_
  have g := at_of h.2 a b l.length 0 (by omega) (by omega)
  have r := atB_range a b l 0
  rw [List.drop_zero] at g
  rw [← g]
  by_cases h2 : (atB a b l 0).2 = true
  · refine Ev_all_k fun k => ?_
    have := r.2.2 h2
    rw [if_pos h2, if_pos h2, if_pos (by show (0 : Int) ≤ ((atB a b l 0).1 : Int); omega), if_pos (by show ((atB a b l 0).1 : Int) < _; omega), rdB]
  · refine Ev_all_k fun k => ?_
    rw [if_neg h2, if_neg h2]
def sumB (a : Int) : List SB → Int
  | [] => 0
  | x :: l => (if x.f1 = a then x.f2 else 0) + sumB a l
theorem sumB_drop (a : Int) (l : List SB) (i : Nat) (hi : i < l.length) : sumB a (l.drop i) = (if (l.getD i z106).f1 = a then (l.getD i z106).f2 else 0) + sumB a (l.drop (i + 1)) := by
  rw [drop_getD z106 l i hi]; rfl
theorem sumB_bound {l : List SB} (h : ∀ j, j < l.length → GoodB l j) (a : Int) : ∀ (d i : Nat), l.length - i = d → i ≤ l.length → -(1000000000000000 * (l.length - i : Int)) ≤ sumB a (l.drop i) ∧ sumB a (l.drop i) ≤ 1000000000000000 * (l.length - i : Int) := by
  intro d
  induction d with
  | zero =>
    intro i hd hi
    obtain rfl : i = l.length := by omega
    rw [List.drop_length]
    unfold sumB
    omega
  | succ d ih =>
    intro i hd hi
    rw [sumB_drop a l i (by omega)]
    have := ih (i + 1) (by omega) (by omega)
    have g : Amt _ := (h i (by omega)).2.2.1
    unfold Amt at g
    split <;> omega
def told (n : Int) (ok : Bool) : Int × Bool := if ok = true ∧ Amt n then (n, true) else (0, false)
theorem told_s (n : Int) (ok : Bool) : spec_l1Told.f n ok = some (told n ok) := by
  unfold spec_l1Told.f told
  rw [amt_s, Option.bind_some]
  cases ok with
  | true =>
    rw [if_pos rfl]
    by_cases h : Amt n
    · rw [if_pos (decide_eq_true h), if_pos ⟨rfl, h⟩]
    · rw [if_neg (by rw [decide_eq_false h]; decide), if_neg fun g => h g.2]
  | false => rw [if_neg (by decide), if_neg fun g => absurd g.1 (by decide)]
theorem sum_i {l : List SB} (h : OkB l) (a : Int) : Ev (fun k => impl_balsSum.f k l a) (sumB a l) := by
  unfold impl_balsSum.f
  have h1 := h.1
  have hb := fun i hi => sumB_bound h.2 a (l.length - i) i rfl hi
  have h' := Ev_goes (fun k s i => impl_balsSum.l0 k a s l (l.length : Int) i) l.length (fun i s => s + sumB a (l.drop i)) (fun i s => s + sumB a (l.drop i) = sumB a l)
    (fun s hs => Ev_one fun k => by
      simp only [impl_balsSum.l0]
      rw [if_neg (by omega), List.drop_length]
      show some s = some (s + 0)
      rw [Int.add_zero])
    (fun i s hi hs => by
      have e := sumB_drop a l i hi
      have b0 := hb 0 (by omega)
      have b1 := hb (i + 1) (by omega)
      rw [List.drop_zero] at b0
      refine .inr ⟨s + (if (l.getD i z106).f1 = a then (l.getD i z106).f2 else 0), by omega, by omega, fun k => ?_⟩
      show impl_balsSum.l0 (k + 1) a s l (l.length : Int) (i : Int) = _
      simp only [impl_balsSum.l0, rdB]
      rw [if_pos (by omega), if_pos (by omega), if_pos (by omega), w_succ hi (by omega)]
      by_cases h2 : (l.getD i z106).f1 = a
      · rw [if_pos h2] at e
        rw [if_pos h2, if_pos h2, w64_in _ (by omega) (by omega)]
      · rw [if_neg h2, if_neg h2, Int.add_zero]) l.length 0 0 (by omega) (by omega) (by rw [List.drop_zero]; omega)
  rw [List.drop_zero, Int.zero_add] at h'
  exact h'
noncomputable def balsSum (l : List SB) (a : Int) : Int × Bool := if okB l = true then told (sumB a l) true else (0, false)
theorem balsSum_s (l : List SB) (a : Int) : Ev (fun k => spec_BalsSum.f k l a) (balsSum l a) := by
  unfold spec_BalsSum.f balsSum
  have last : ∀ s : Int, (okB l = false → s = 0) → Ev (fun k => (spec_BalsOk.f k l).bind fun t214 => ((spec_l1Told.f s t214).bind fun bt215 => (some (bt215.1, bt215.2)))) (if okB l = true then told s true else (0, false)) := fun s _ => by
    refine Ev_bind (balsOk_s l) (Ev_all_k fun k => ?_)
    rw [told_s]
    cases okB l with
    | true => rfl
    | false => rw [if_neg (by decide)]; unfold told; rw [if_neg fun g => absurd g.1 (by decide)]; rfl
  by_cases h : OkB l
  · have h1 := h.1
    have ht := (okB_iff l).2 h
    have hb := fun i hi => sumB_bound h.2 a (l.length - i) i rfl hi
    have h' := Ev_goes' (fun k s i => spec_BalsSum.l0 k l a s i) l.length (fun i s => if okB l = true then told (s + sumB a (l.drop i)) true else (0, false)) (fun i s => s + sumB a (l.drop i) = sumB a l)
      (fun s hs => by
        refine Ev.step (f := fun k => spec_BalsSum.j1 k l a s (l.length : Int) false) (fun k => by simp only [spec_BalsSum.l0]; rw [if_neg (by omega)]) ?_
        refine Ev.step (fun k => by simp only [spec_BalsSum.j1]; rw [if_neg (by decide)]) ?_
        have := last s (fun g => by rw [ht] at g; cases g)
        rw [List.drop_length]
        show Ev _ (if okB l = true then told (s + 0) true else (0, false))
        rw [Int.add_zero]
        exact this)
      (fun i s hi hs => by
        have e := sumB_drop a l i hi
        have b0 := hb 0 (by omega)
        have b1 := hb (i + 1) (by omega)
        rw [List.drop_zero] at b0
        refine .inr ⟨s + (if (l.getD i z106).f1 = a then (l.getD i z106).f2 else 0), by omega, by
          show (if okB l = true then told (s + (if (l.getD i z106).f1 = a then (l.getD i z106).f2 else 0) + sumB a (l.drop (i + 1))) true else (0, false)) = if okB l = true then told (s + sumB a (l.drop i)) true else (0, false)
          rw [e, Int.add_assoc], fun r hr => ?_⟩
        refine Ev.step (f := fun k => (spec_BalsOk.f k l).bind fun t211 => spec_BalsSum.j1 k l a s (i : Int) t211) (fun k => by simp only [spec_BalsSum.l0]; rw [if_pos (by omega)]) (Ev_bind (balsOk_s l) ?_)
        rw [ht]
        refine Ev.step (fun k => ?_) hr
        show spec_BalsSum.j1 (k + 1) l a s (i : Int) true = _
        simp only [spec_BalsSum.j1, rdB]
        rw [if_pos trivial, if_pos (by omega), if_pos (by omega), w_succ hi (by omega)]
        by_cases h2 : (l.getD i z106).f1 = a
        · rw [if_pos h2] at e
          rw [if_pos h2, if_pos h2, w64_in _ (by omega) (by omega)]
        · rw [if_neg h2, if_neg h2, Int.add_zero]) l.length 0 0 (by omega) (by omega) (by rw [List.drop_zero]; omega)
    rw [List.drop_zero, Int.zero_add] at h'
    exact h'
  · have hf := okB_no h
    have hr : (if okB l = true then told (sumB a l) true else (0, false)) = (if okB l = true then told 0 true else (0, false)) := by rw [hf]; rfl
    rw [hr]
    by_cases h0 : (0 : Int) < (l.length : Int)
    · refine Ev.step (f := fun k => (spec_BalsOk.f k l).bind fun t211 => spec_BalsSum.j1 k l a 0 0 t211) (fun k => by simp only [spec_BalsSum.l0]; rw [if_pos h0]) (Ev_bind (balsOk_s l) ?_)
      have hz := last 0 fun _ => rfl
      rw [hf] at hz ⊢
      refine Ev.step (fun k => by simp only [spec_BalsSum.j1]; rw [if_neg (by decide)]) ?_
      exact hz
    · refine Ev.step (f := fun k => spec_BalsSum.j1 k l a 0 0 false) (fun k => by simp only [spec_BalsSum.l0]; rw [if_neg h0]) ?_
      refine Ev.step (fun k => by simp only [spec_BalsSum.j1]; rw [if_neg (by decide)]) ?_
      exact last 0 fun _ => rfl
end Go.Proofs.YtmfgajbkcnlkcaaGreat.B2
namespace Go.Proofs.YtmfgajbkcnlkcaaGreat.E1
open Go Go.RowKit Go.Proofs.YtmfgajbkcnlkcaaGreat.P Go.Proofs.YtmfgajbkcnlkcaaGreatW.PrintWords Go.Proofs.YtmfgajbkcnlkcaaGreatW.PrintLast Go.Proofs.YtmfgajbkcnlkcaaGreat.EV Go.Proofs.YtmfgajbkcnlkcaaGreat.I1 Go.Proofs.YtmfgajbkcnlkcaaGreat.N1
abbrev SL := S110
theorem rdL (l : List SL) (i : Nat) : rd_T110 l (i : Int) = l.getD i z110 := by unfold rd_T110; rw [Int.toNat_natCast]
def Form (x : SL) : Prop := No x.f0 ∧ No x.f1 ∧ (1 ≤ x.f2 ∧ x.f2 ≤ 1000000000) ∧ (1 ≤ x.f3 ∧ x.f3 ≤ 1000000000000000) ∧ 0 ≤ x.f4 ∧ x.f4 ≤ 1000000000000000
instance (x : SL) : Decidable (Form x) := by unfold Form No; exact inferInstance
def Lt (x y : SL) : Prop := x.f0 < y.f0 ∨ (x.f0 = y.f0 ∧ (x.f1 < y.f1 ∨ (x.f1 = y.f1 ∧ x.f2 < y.f2)))
instance (x y : SL) : Decidable (Lt x y) := by unfold Lt; exact inferInstance
theorem Lt.trans {x y z : SL} (h : Lt x y) (g : Lt y z) : Lt x z := by
  unfold Lt at *
  omega
def qty (a b : Int) : List SL → Int
  | [] => 0
  | x :: xs => (if x.f0 = a ∧ x.f1 = b then x.f3 else 0) + qty a b xs
def cst (a b : Int) : List SL → Int
  | [] => 0
  | x :: xs => (if x.f0 = a ∧ x.f1 = b then x.f4 else 0) + cst a b xs
def Chn : Option SL → List SL → Prop
  | _, [] => True
  | none, x :: xs => Chn (some x) xs
  | some y, x :: xs => Lt y x ∧ Chn (some x) xs
def Right (l : List SL) : Prop := l.length ≤ 120 ∧ (∀ x ∈ l, Form x) ∧ Chn none l ∧ ∀ a b, Amt (qty a b l) ∧ Amt (cst a b l)
theorem Chn.tail {y x : SL} {l : List SL} (h : Lt y x) (g : Chn (some x) l) : Chn (some y) l := by
  cases l with
  | nil => trivial
  | cons z zs => exact ⟨h.trans g.1, g.2⟩
theorem Chn.all {y : SL} : ∀ {l : List SL}, Chn (some y) l → ∀ x ∈ l, Lt y x
  | [], _, x, hx => by cases hx
  | z :: zs, h, x, hx => by
    rcases List.mem_cons.1 hx with rfl | hx
    · exact h.1
    · exact Chn.all (Chn.tail h.1 h.2) x hx
theorem qty_none {a b : Int} : ∀ {l : List SL}, (∀ x ∈ l, ¬(x.f0 = a ∧ x.f1 = b)) → qty a b l = 0 ∧ cst a b l = 0
  | [], _ => ⟨rfl, rfl⟩
  | x :: xs, h => by
    have ih := qty_none (l := xs) fun y hy => h y (List.mem_cons_of_mem _ hy)
    have hx := h x (List.mem_cons_self ..)
    simp only [qty, cst]
    rw [if_neg hx, if_neg hx, ih.1, ih.2]
    exact ⟨rfl, rfl⟩
theorem qty_pos {a b : Int} : ∀ {l : List SL}, (∀ x ∈ l, Form x) → 0 ≤ qty a b l ∧ 0 ≤ cst a b l ∧ qty a b l ≤ l.length * 1000000000000000 ∧ cst a b l ≤ l.length * 1000000000000000
  | [], _ => ⟨Int.le_refl _, Int.le_refl _, by simp [qty], by simp [cst]⟩
  | x :: xs, h => by
    have ih := qty_pos (a := a) (b := b) (l := xs) fun y hy => h y (List.mem_cons_of_mem _ hy)
    have hx := h x (List.mem_cons_self ..)
    unfold Form at hx
    simp only [qty, cst, List.length_cons]
    split <;> omega
theorem cmp_neg (x y : SL) : 0 ≤ impl_LotsOk.cmp x y ↔ ¬Lt x y := by
  unfold impl_LotsOk.cmp Lt
  by_cases h0 : x.f0 < y.f0
  · rw [if_pos h0]; omega
  · rw [if_neg h0]
    by_cases h1 : y.f0 < x.f0
    · rw [if_pos h1]; omega
    · rw [if_neg h1]
      by_cases h2 : x.f1 < y.f1
      · rw [if_pos h2]; omega
      · rw [if_neg h2]
        by_cases h3 : y.f1 < x.f1
        · rw [if_pos h3]; omega
        · rw [if_neg h3]
          by_cases h4 : x.f2 < y.f2
          · rw [if_pos h4]; omega
          · rw [if_neg h4]
            by_cases h5 : y.f2 < x.f2
            · rw [if_pos h5]; omega
            · rw [if_neg h5]; omega
theorem form_iff (x : SL) : impl_LotsOk.form x = true ↔ Form x := by
  unfold impl_LotsOk.form Form No
  rw [decide_eq_true_iff]
def prev (l : List SL) (i : Nat) : Option SL := if 0 < i then some (l.getD (i - 1) z110) else none
theorem chk_go (l : List SL) : ∀ (n i : Nat), l.length - i = n → i ≤ l.length → (impl_LotsOk.chk l n i = true ↔ (∀ x ∈ l.drop i, Form x) ∧ Chn (prev l i) (l.drop i))
  | 0, i, hn, hi => by
    obtain rfl : i = l.length := by omega
    rw [List.drop_length]
    unfold impl_LotsOk.chk
    exact ⟨fun _ => ⟨fun x hx => (by cases hx), trivial⟩, fun _ => rfl⟩
  | n + 1, i, hn, hi => by
    have h1 : i < l.length := by omega
    have ih := chk_go l n (i + 1) (by omega) (by omega)
    have ep : prev l (i + 1) = some (l.getD i z110) := by unfold prev; rw [if_pos (by omega), Nat.add_sub_cancel]
    rw [ep] at ih
    rw [drop_getD z110 l i h1]
    unfold impl_LotsOk.chk
    by_cases h0 : 0 < i
    · have e0 : prev l i = some (l.getD (i - 1) z110) := by unfold prev; rw [if_pos h0]
      rw [e0]
      constructor
      · intro h
        split at h
        · rename_i hg
          have h2 := ih.1 h
          refine ⟨fun x hx => ?_, Classical.byContradiction fun hh => hg.2 ⟨h0, (cmp_neg _ _).2 fun hl => hh ⟨hl, h2.2⟩⟩⟩
          rcases List.mem_cons.1 hx with rfl | hx
          · exact (form_iff _).1 hg.1
          · exact h2.1 x hx
        · cases h
      · rintro ⟨hf, hl, hc⟩
        rw [if_pos ⟨(form_iff _).2 (hf _ (List.mem_cons_self ..)), fun hh => (cmp_neg _ _).1 hh.2 hl⟩]
        exact ih.2 ⟨fun x hx => hf x (List.mem_cons_of_mem _ hx), hc⟩
    · have e0 : prev l i = none := by unfold prev; rw [if_neg h0]
      rw [e0]
      constructor
      · intro h
        split at h
        · rename_i hg
          have h2 := ih.1 h
          refine ⟨fun x hx => ?_, h2.2⟩
          rcases List.mem_cons.1 hx with rfl | hx
          · exact (form_iff _).1 hg.1
          · exact h2.1 x hx
        · cases h
      · rintro ⟨hf, hc⟩
        rw [if_pos ⟨(form_iff _).2 (hf _ (List.mem_cons_self ..)), fun hh => h0 hh.1⟩]
        exact ih.2 ⟨fun x hx => hf x (List.mem_cons_of_mem _ hx), hc⟩
theorem sum_of (a b : Int) : ∀ (l : List SL) (q c : Int), (∀ x ∈ l, Form x) → 0 ≤ q → 0 ≤ c → q + l.length * 1000000000000000 ≤ 9000000000000000000 → c + l.length * 1000000000000000 ≤ 9000000000000000000 →
    impl_LotsOk.sum3 (impl_LotsOk.of l a b) q = q + qty a b l ∧ impl_LotsOk.sum4 (impl_LotsOk.of l a b) c = c + cst a b l
  | [], q, c, _, _, _, _, _ => by simp [impl_LotsOk.of, impl_LotsOk.sum3, impl_LotsOk.sum4, qty, cst]
  | x :: xs, q, c, hf, h0, h1, h2, h3 => by
    have hx := hf x (List.mem_cons_self ..)
    have hxs : ∀ y ∈ xs, Form y := fun y hy => hf y (List.mem_cons_of_mem _ hy)
    unfold Form at hx
    simp only [List.length_cons] at h2 h3
    by_cases hk : x.f0 = a ∧ x.f1 = b
    · have e : impl_LotsOk.of (x :: xs) a b = x :: impl_LotsOk.of xs a b := by
        unfold impl_LotsOk.of
        rw [List.filter_cons_of_pos (by simpa using hk)]
      have ih := sum_of a b xs (q + x.f3) (c + x.f4) hxs (by omega) (by omega) (by omega) (by omega)
      rw [e]
      simp only [impl_LotsOk.sum3, impl_LotsOk.sum4, List.foldl_cons, qty, cst] at ih ⊢
      rw [if_pos hk, if_pos hk, w64_in (q + x.f3) (by omega) (by omega), w64_in (c + x.f4) (by omega) (by omega), ih.1, ih.2]
      omega
    · have e : impl_LotsOk.of (x :: xs) a b = impl_LotsOk.of xs a b := by
        unfold impl_LotsOk.of
        rw [List.filter_cons_of_neg (by simpa using hk)]
      have ih := sum_of a b xs q c hxs (by omega) (by omega) (by omega) (by omega)
      rw [e]
      simp only [qty, cst]
      rw [if_neg hk, if_neg hk, ih.1, ih.2]
      omega
theorem over_iff (l : List SL) (hl : l.length ≤ 120) (hf : ∀ x ∈ l, Form x) (x : SL) : impl_LotsOk.over l x = false ↔ Amt (qty x.f0 x.f1 l) ∧ Amt (cst x.f0 x.f1 l) := by
  have h := sum_of x.f0 x.f1 l 0 0 hf (Int.le_refl _) (Int.le_refl _) (by omega) (by omega)
  unfold impl_LotsOk.over
  rw [h.1, h.2, Int.zero_add, Int.zero_add]
  unfold impl_LotsOk.amt Amt
  by_cases h1 : -1000000000000000 ≤ qty x.f0 x.f1 l ∧ qty x.f0 x.f1 l ≤ 1000000000000000
  · by_cases h2 : -1000000000000000 ≤ cst x.f0 x.f1 l ∧ cst x.f0 x.f1 l ≤ 1000000000000000
    · simp [h1, h2]
    · rw [if_pos (decide_eq_true h1), decide_eq_false h2]
      exact ⟨fun h => Bool.noConfusion h, fun h => absurd h.2 h2⟩
  · rw [if_neg (by rw [decide_eq_false h1]; decide)]
    exact ⟨fun h => Bool.noConfusion h, fun h => absurd h.1 h1⟩
theorem ok_iff (l : List SL) : impl_LotsOk.ok l = true ↔ Right l := by
  unfold impl_LotsOk.ok
  have hc := chk_go l l.length 0 (by omega) (by omega)
  rw [List.drop_zero] at hc
  by_cases h1 : impl_LotsOk.chk l l.length 0 = true
  · rw [if_pos h1]
    have hg := hc.1 h1
    by_cases h2 : (l.length : Int) > 120
    · rw [if_pos h2]
      exact ⟨fun h => Bool.noConfusion h, fun h => absurd h.1 (by omega)⟩
    · rw [if_neg h2]
      have h3 : l.length ≤ 120 := by omega
      constructor
      · intro h
        have h4 : l.any (impl_LotsOk.over l) = false := by simpa using h
        refine ⟨h3, hg.1, hg.2, fun a b => ?_⟩
        by_cases hx : ∃ x ∈ l, x.f0 = a ∧ x.f1 = b
        · obtain ⟨x, hx, rfl, rfl⟩ := hx
          have h5 := List.any_eq_false.1 h4 x hx
          exact (over_iff l h3 hg.1 x).1 (by simpa using h5)
        · have h6 := qty_none (a := a) (b := b) (l := l) fun x hm hk => hx ⟨x, hm, hk⟩
          rw [h6.1, h6.2]
          unfold Amt
          omega
      · intro h
        have h4 : l.any (impl_LotsOk.over l) = false := by
          rw [List.any_eq_false]
          intro x _
          rw [(over_iff l h3 hg.1 x).2 (h.2.2.2 x.f0 x.f1)]
          decide
        rw [h4]
        rfl
  · rw [if_neg h1]
    exact ⟨fun h => Bool.noConfusion h, fun h => absurd (hc.2 ⟨h.2.1, h.2.2.1⟩) h1⟩
theorem some_s (a lo : Int) : spec_l1Some.f a lo = some (decide (lo ≤ a ∧ a ≤ 1000000000000000)) := by
  unfold spec_l1Some.f
  first | (rw [in_s]; rfl) | (rw [in_s])
theorem right_s (x : SL) : spec_l5Right.f x.f0 x.f1 x.f2 x.f3 x.f4 = some (decide (Form x)) := by
  unfold spec_l5Right.f
  simp only [no_s, in_s, some_s, Option.bind_some, decide_eq_true_iff]
  by_cases h0 : No x.f0
  · by_cases h1 : No x.f1
    · by_cases h2 : 1 ≤ x.f2 ∧ x.f2 ≤ 1000000000
      · by_cases h3 : 1 ≤ x.f3 ∧ x.f3 ≤ 1000000000000000
        · by_cases h4 : 0 ≤ x.f4 ∧ x.f4 ≤ 1000000000000000
          · rw [if_pos h0, if_pos h1, if_pos h2, if_pos h3, decide_eq_true h4, decide_eq_true (show Form x from ⟨h0, h1, h2, h3, h4⟩)]
          · rw [if_pos h0, if_pos h1, if_pos h2, if_pos h3, decide_eq_false h4, decide_eq_false (fun g : Form x => h4 g.2.2.2.2)]
        · rw [if_pos h0, if_pos h1, if_pos h2, if_neg h3, decide_eq_false (fun g : Form x => h3 g.2.2.2.1)]
      · rw [if_pos h0, if_pos h1, if_neg h2, decide_eq_false (fun g : Form x => h2 g.2.2.1)]
    · rw [if_pos h0, if_neg h1, decide_eq_false (fun g : Form x => h1 g.2.1)]
  · rw [if_neg h0, decide_eq_false (fun g : Form x => h0 g.1)]
theorem before_s (x y : SL) : spec_l5Before.f x.f0 x.f1 x.f2 x.f3 x.f4 y.f0 y.f1 y.f2 y.f3 y.f4 = some (decide (Lt x y)) := by
  unfold spec_l5Before.f spec_l4Before.f Lt
  by_cases h0 : x.f0 < y.f0
  · simp [h0]
  · by_cases h1 : x.f0 = y.f0
    · by_cases h2 : x.f1 < y.f1
      · simp [h1, h2]
      · by_cases h3 : x.f1 = y.f1 <;> simp [h1, h2, h3]
    · simp [h0, h1]
def base (p : Option SL) (q a b : Int) : Int := match p with
  | none => 0
  | some y => if y.f0 = a ∧ y.f1 = b then q else 0
def Aft (p : Option SL) (x : SL) : Prop := match p with
  | none => True
  | some y => Lt y x
instance (p : Option SL) (x : SL) : Decidable (Aft p x) := by unfold Aft; split <;> exact inferInstance
def go : Option SL → Int → Int → List SL → Bool
  | _, _, _, [] => true
  | p, q, c, x :: xs => if Form x ∧ Aft p x then (if Amt (base p q x.f0 x.f1 + x.f3) ∧ Amt (base p c x.f0 x.f1 + x.f4) then go (some x) (base p q x.f0 x.f1 + x.f3) (base p c x.f0 x.f1 + x.f4) xs else false) else false
theorem chn_cons (p : Option SL) (x : SL) (xs : List SL) : Chn p (x :: xs) ↔ Aft p x ∧ Chn (some x) xs := by
  cases p with
  | none => exact ⟨fun h => ⟨trivial, h⟩, fun h => h.2⟩
  | some y => exact Iff.rfl
theorem base_pos (p : Option SL) (q a b : Int) (h0 : 0 ≤ q) (h1 : q ≤ 1000000000000000) : 0 ≤ base p q a b ∧ base p q a b ≤ 1000000000000000 := by
  cases p with
  | none => simp only [base]; omega
  | some y => simp only [base]; split <;> omega
theorem base_own (x : SL) (q : Int) : base (some x) q x.f0 x.f1 = q := by simp only [base]; rw [if_pos ⟨trivial, trivial⟩]
theorem base_other {x : SL} {q a b : Int} (h : ¬(x.f0 = a ∧ x.f1 = b)) : base (some x) q a b = 0 := by simp only [base]; rw [if_neg h]
theorem gone {y x : SL} {xs : List SL} {a b : Int} (hl : Lt y x) (hc : Chn (some x) xs) (hy : y.f0 = a ∧ y.f1 = b) (hx : ¬(x.f0 = a ∧ x.f1 = b)) : qty a b xs = 0 ∧ cst a b xs = 0 :=
  qty_none fun z hz hk => by
    have h1 := Chn.all hc z hz
    unfold Lt at h1 hl
    omega
theorem go_iff : ∀ (l : List SL) (p : Option SL) (q c : Int), 0 ≤ q → q ≤ 1000000000000000 → 0 ≤ c → c ≤ 1000000000000000 →
    (go p q c l = true ↔ (∀ x ∈ l, Form x) ∧ Chn p l ∧ ∀ a b, Amt (base p q a b + qty a b l) ∧ Amt (base p c a b + cst a b l))
  | [], p, q, c, q0, q1, c0, c1 => by
    refine ⟨fun _ => ⟨fun x hx => (by cases hx), by cases p <;> trivial, fun a b => ?_⟩, fun _ => by cases p <;> rfl⟩
    have h1 := base_pos p q a b q0 q1
    have h2 := base_pos p c a b c0 c1
    simp only [qty, cst]
    unfold Amt
    omega
  | x :: xs, p, q, c, q0, q1, c0, c1 => by
    have hb1 := base_pos p q x.f0 x.f1 q0 q1
    have hb2 := base_pos p c x.f0 x.f1 c0 c1
    rw [go, chn_cons]
    by_cases h1 : Form x ∧ Aft p x
    · rw [if_pos h1]
      have hfx := h1.1
      unfold Form at hfx
      by_cases h2 : Amt (base p q x.f0 x.f1 + x.f3) ∧ Amt (base p c x.f0 x.f1 + x.f4)
      · rw [if_pos h2]
        have ih := go_iff xs (some x) (base p q x.f0 x.f1 + x.f3) (base p c x.f0 x.f1 + x.f4) (by omega) h2.1.2 (by omega) h2.2.2
        have key : Chn (some x) xs → ∀ a b, ((Amt (base (some x) (base p q x.f0 x.f1 + x.f3) a b + qty a b xs) ∧ Amt (base (some x) (base p c x.f0 x.f1 + x.f4) a b + cst a b xs)) ↔ (Amt (base p q a b + qty a b (x :: xs)) ∧ Amt (base p c a b + cst a b (x :: xs)))) := by
          intro hc a b
          by_cases hk : x.f0 = a ∧ x.f1 = b
          · obtain ⟨rfl, rfl⟩ := hk
            rw [base_own, base_own]
            simp only [qty, cst]
            rw [if_pos ⟨trivial, trivial⟩, if_pos ⟨trivial, trivial⟩, Int.add_assoc, Int.add_assoc]
          · rw [base_other hk, base_other hk]
            simp only [qty, cst]
            rw [if_neg hk, if_neg hk]
            simp only [Int.zero_add]
            cases p with
            | none => simp only [base, Int.zero_add]
            | some y =>
              by_cases hy : y.f0 = a ∧ y.f1 = b
              · have hg := gone h1.2 hc hy hk
                simp only [base]
                rw [if_pos hy, if_pos hy, hg.1, hg.2]
                unfold Amt
                omega
              · rw [base_other hy, base_other hy]
                simp only [Int.zero_add]
        constructor
        · intro h
          obtain ⟨f1, f2, f3⟩ := ih.1 h
          refine ⟨fun z hz => ?_, ⟨h1.2, f2⟩, fun a b => (key f2 a b).1 (f3 a b)⟩
          rcases List.mem_cons.1 hz with rfl | hz
          · exact h1.1
          · exact f1 z hz
        · rintro ⟨f1, ⟨_, f2⟩, f3⟩
          exact ih.2 ⟨fun z hz => f1 z (List.mem_cons_of_mem _ hz), f2, fun a b => (key f2 a b).2 (f3 a b)⟩
      · rw [if_neg h2]
        refine ⟨fun h => Bool.noConfusion h, fun h => absurd ?_ h2⟩
        obtain ⟨f1, ⟨_, f2⟩, f3⟩ := h
        have h3 := f3 x.f0 x.f1
        have h4 := qty_pos (a := x.f0) (b := x.f1) (l := xs) fun z hz => f1 z (List.mem_cons_of_mem _ hz)
        simp only [qty, cst] at h3
        rw [if_pos ⟨trivial, trivial⟩, if_pos ⟨trivial, trivial⟩] at h3
        unfold Amt at h3 ⊢
        omega
    · rw [if_neg h1]
      exact ⟨fun h => Bool.noConfusion h, fun h => absurd ⟨h.1 x (List.mem_cons_self ..), h.2.1.1⟩ h1⟩
theorem lotsOk_s (l : List SL) : Ev (fun k => spec_LotsOk.f k l) (impl_LotsOk.ok l) := by
  unfold spec_LotsOk.f
  have hok : impl_LotsOk.ok l = (if (l.length : Int) > 120 then false else go none 0 0 l) := by
    rw [Bool.eq_iff_iff, ok_iff]
    by_cases h : (l.length : Int) > 120
    · rw [if_pos h]
      exact ⟨fun g => absurd g.1 (by omega), fun g => Bool.noConfusion g⟩
    · rw [if_neg h, go_iff l none 0 0 (by omega) (by omega) (by omega) (by omega)]
      unfold Right
      simp only [base, Int.zero_add]
      exact ⟨fun g => g.2, fun g => ⟨by omega, g⟩⟩
  rw [hok]
  by_cases hn : (l.length : Int) > 120
  · rw [if_pos hn]
    exact Ev_all_k fun k => by rw [if_pos hn]
  · rw [if_neg hn]
    have h := Ev_goes' (fun k (s : Int × Int) i => spec_LotsOk.l0 k l s.1 s.2 i) l.length (fun i s => go (prev l i) s.1 s.2 (l.drop i)) (fun i s => 0 ≤ s.1 ∧ s.1 ≤ 1000000000000000 ∧ 0 ≤ s.2 ∧ s.2 ≤ 1000000000000000)
      (fun s hs => Ev_one fun k => by
        simp only [spec_LotsOk.l0]
        rw [if_neg (by omega), List.drop_length]
        cases prev l l.length <;> rfl)
      (fun i s hi hs => by
        obtain ⟨q, c⟩ := s
        obtain ⟨q0, q1, c0, c1⟩ := hs
        simp only at q0 q1 c0 c1
        show (Ev (fun k => spec_LotsOk.l0 k l q c (i : Int)) (go (prev l i) q c (l.drop i))) ∨ _
        have ep : prev l (i + 1) = some (l.getD i z110) := by unfold prev; rw [if_pos (by omega), Nat.add_sub_cancel]
        rw [drop_getD z110 l i hi]
        show (Ev (fun k => spec_LotsOk.l0 k l q c (i : Int)) (go (prev l i) q c (l.getD i z110 :: l.drop (i + 1)))) ∨ ∃ s' : Int × Int, _ ∧ go (prev l (i + 1)) s'.1 s'.2 (l.drop (i + 1)) = go (prev l i) q c (l.getD i z110 :: l.drop (i + 1)) ∧ _
        rw [ep]
        generalize hx : l.getD i z110 = x
        rw [go]
        have hb1 := base_pos (prev l i) q x.f0 x.f1 q0 q1
        have hb2 := base_pos (prev l i) c x.f0 x.f1 c0 c1
        -- the round's last part
        have e3 : Form x → ∀ (a b : Int), 0 ≤ a → a ≤ 1000000000000000 → 0 ≤ b → b ≤ 1000000000000000 → ∀ k, spec_LotsOk.j3 (k + 1) l a b (i : Int) x.f0 x.f1 x.f2 x.f3 x.f4 = if Amt (a + x.f3) ∧ Amt (b + x.f4) then spec_LotsOk.l0 k l (a + x.f3) (b + x.f4) ((i + 1 : Nat) : Int) else some false := by
          intro hf a b a0 a1 b0 b1 k
          unfold Form at hf
          simp only [spec_LotsOk.j3]
          rw [w64_in (a + x.f3) (by omega) (by omega), w64_in (b + x.f4) (by omega) (by omega), w_succ hi (by omega), amt_s, amt_s, Option.bind_some, Option.bind_some]
          by_cases h1 : Amt (a + x.f3)
          · by_cases h2 : Amt (b + x.f4)
            · rw [if_pos (decide_eq_true h1), if_pos (decide_eq_true h2), if_pos ⟨h1, h2⟩]
            · rw [if_pos (decide_eq_true h1), if_neg (by rw [decide_eq_false h2]; decide), if_neg fun g => h2 g.2]
          · rw [if_neg (by rw [decide_eq_false h1]; decide), if_neg fun g => h1 g.1]
        have e2 : ∀ k (t : Bool), spec_LotsOk.j2 (k + 1) l q c (i : Int) t x.f0 x.f1 x.f2 x.f3 x.f4 = if t = true then spec_LotsOk.j3 k l 0 0 (i : Int) x.f0 x.f1 x.f2 x.f3 x.f4 else spec_LotsOk.j3 k l q c (i : Int) x.f0 x.f1 x.f2 x.f3 x.f4 := fun k t => by simp only [spec_LotsOk.j2]
        -- what the round comes to, once the pair's own amounts are known
        have fin : ∀ a b, Form x → a = base (prev l i) q x.f0 x.f1 → b = base (prev l i) c x.f0 x.f1 → Aft (prev l i) x → (∀ r, Ev (fun k => spec_LotsOk.j3 k l a b (i : Int) x.f0 x.f1 x.f2 x.f3 x.f4) r → Ev (fun k => spec_LotsOk.l0 k l q c (i : Int)) r) →
            (Ev (fun k => spec_LotsOk.l0 k l q c (i : Int)) (if Form x ∧ Aft (prev l i) x then (if Amt (base (prev l i) q x.f0 x.f1 + x.f3) ∧ Amt (base (prev l i) c x.f0 x.f1 + x.f4) then go (some x) (base (prev l i) q x.f0 x.f1 + x.f3) (base (prev l i) c x.f0 x.f1 + x.f4) (l.drop (i + 1)) else false) else false)) ∨
            ∃ s' : Int × Int, (0 ≤ s'.1 ∧ s'.1 ≤ 1000000000000000 ∧ 0 ≤ s'.2 ∧ s'.2 ≤ 1000000000000000) ∧ go (some x) s'.1 s'.2 (l.drop (i + 1)) = (if Form x ∧ Aft (prev l i) x then (if Amt (base (prev l i) q x.f0 x.f1 + x.f3) ∧ Amt (base (prev l i) c x.f0 x.f1 + x.f4) then go (some x) (base (prev l i) q x.f0 x.f1 + x.f3) (base (prev l i) c x.f0 x.f1 + x.f4) (l.drop (i + 1)) else false) else false) ∧
              ∀ r, Ev (fun k => spec_LotsOk.l0 k l s'.1 s'.2 ((i + 1 : Nat) : Int)) r → Ev (fun k => spec_LotsOk.l0 k l q c (i : Int)) r := by
          rintro a b hf rfl rfl ha step
          rw [if_pos ⟨hf, ha⟩]
          have hf' := hf
          unfold Form at hf'
          by_cases hm : Amt (base (prev l i) q x.f0 x.f1 + x.f3) ∧ Amt (base (prev l i) c x.f0 x.f1 + x.f4)
          · rw [if_pos hm]
            refine .inr ⟨(base (prev l i) q x.f0 x.f1 + x.f3, base (prev l i) c x.f0 x.f1 + x.f4), ⟨by show 0 ≤ _ + x.f3; omega, hm.1.2, by show 0 ≤ _ + x.f4; omega, hm.2.2⟩, rfl, fun r hr => ?_⟩
            refine step r (Ev.step (fun k => ?_) hr)
            show spec_LotsOk.j3 (k + 1) l _ _ (i : Int) x.f0 x.f1 x.f2 x.f3 x.f4 = _
            rw [e3 hf _ _ hb1.1 hb1.2 hb2.1 hb2.2 k, if_pos hm]
          · rw [if_neg hm]
            refine .inl (step false (Ev_one fun k => ?_))
            show spec_LotsOk.j3 (k + 1) l _ _ (i : Int) x.f0 x.f1 x.f2 x.f3 x.f4 = _
            rw [e3 hf _ _ hb1.1 hb1.2 hb2.1 hb2.2 k, if_neg hm]
        by_cases hf : Form x
        · by_cases h0 : 0 < i
          · have e0 : prev l i = some (l.getD (i - 1) z110) := by unfold prev; rw [if_pos h0]
            generalize hy : l.getD (i - 1) z110 = y at e0
            have eA : ∀ k, spec_LotsOk.l0 (k + 1) l q c (i : Int) = spec_LotsOk.j1 k l q c (i : Int) (!decide (Lt y x)) x.f0 x.f1 x.f2 x.f3 x.f4 := by
              intro k
              simp only [spec_LotsOk.l0]
              rw [if_pos (by omega), if_pos (by omega), w_pred hi h0 (by omega)]
              simp only [rdL, hx, hy, right_s, before_s, Option.bind_some, decide_eq_true_iff]
              rw [if_pos hf, if_pos (by omega), if_pos (by omega), if_pos (by omega)]
            by_cases hl : Lt y x
            · have ha : Aft (prev l i) x := by rw [e0]; exact hl
              have eB : ∀ k, spec_LotsOk.j1 (k + 1) l q c (i : Int) false x.f0 x.f1 x.f2 x.f3 x.f4 = spec_LotsOk.j2 k l q c (i : Int) (!decide (y.f0 = x.f0 ∧ y.f1 = x.f1)) x.f0 x.f1 x.f2 x.f3 x.f4 := by
                intro k
                simp only [spec_LotsOk.j1]
                rw [if_neg (by decide), if_neg (by omega), w_pred hi h0 (by omega), if_pos (by omega), if_pos (by omega)]
                simp only [rdL, hy]
                by_cases k1 : x.f0 = y.f0
                · rw [if_pos k1]
                  by_cases k2 : x.f1 = y.f1
                  · rw [decide_eq_true (show y.f0 = x.f0 ∧ y.f1 = x.f1 from ⟨k1.symm, k2.symm⟩), k2]
                    simp
                  · rw [decide_eq_false (show ¬(y.f0 = x.f0 ∧ y.f1 = x.f1) from fun g => k2 g.2.symm), show (x.f1 != y.f1) = true by simpa using k2]
                    rfl
                · rw [if_neg k1, decide_eq_false (show ¬(y.f0 = x.f0 ∧ y.f1 = x.f1) from fun g => k1 g.1.symm)]
                  rfl
              by_cases hk : y.f0 = x.f0 ∧ y.f1 = x.f1
              · refine fin q c hf (by rw [e0]; simp only [base]; rw [if_pos hk]) (by rw [e0]; simp only [base]; rw [if_pos hk]) ha fun r hr => ?_
                refine Ev.step (fun k => by rw [eA k, decide_eq_true hl]) (Ev.step (fun k => by show spec_LotsOk.j1 (k + 1) l q c (i : Int) false x.f0 x.f1 x.f2 x.f3 x.f4 = _; rw [eB k, decide_eq_true hk]) (Ev.step (fun k => by show spec_LotsOk.j2 (k + 1) l q c (i : Int) false x.f0 x.f1 x.f2 x.f3 x.f4 = _; rw [e2 k, if_neg (by decide)]) hr))
              · refine fin 0 0 hf (by rw [e0]; simp only [base]; rw [if_neg hk]) (by rw [e0]; simp only [base]; rw [if_neg hk]) ha fun r hr => ?_
                refine Ev.step (fun k => by rw [eA k, decide_eq_true hl]) (Ev.step (fun k => by show spec_LotsOk.j1 (k + 1) l q c (i : Int) false x.f0 x.f1 x.f2 x.f3 x.f4 = _; rw [eB k, decide_eq_false hk]) (Ev.step (fun k => by show spec_LotsOk.j2 (k + 1) l q c (i : Int) true x.f0 x.f1 x.f2 x.f3 x.f4 = _; rw [e2 k, if_pos rfl]) hr))
            · have ha : ¬(Form x ∧ Aft (prev l i) x) := by rw [e0]; exact fun g => hl g.2
              rw [if_neg ha]
              refine .inl (Ev.step (fun k => by rw [eA k, decide_eq_false hl]) (Ev_one fun k => ?_))
              show spec_LotsOk.j1 (k + 1) l q c (i : Int) true x.f0 x.f1 x.f2 x.f3 x.f4 = _
              simp only [spec_LotsOk.j1]
              rw [if_pos trivial]
          · have e0 : prev l i = none := by unfold prev; rw [if_neg h0]
            have ha : Aft (prev l i) x := by rw [e0]; exact trivial
            have hz : (i : Int) = 0 := by omega
            refine fin 0 0 hf (by rw [e0]; rfl) (by rw [e0]; rfl) ha fun r hr => ?_
            refine Ev.step (f := fun k => spec_LotsOk.j1 k l q c (i : Int) false x.f0 x.f1 x.f2 x.f3 x.f4) (fun k => ?_) (Ev.step (f := fun k => spec_LotsOk.j2 k l q c (i : Int) true x.f0 x.f1 x.f2 x.f3 x.f4) (fun k => ?_) (Ev.step (fun k => by show spec_LotsOk.j2 (k + 1) l q c (i : Int) true x.f0 x.f1 x.f2 x.f3 x.f4 = _; rw [e2 k, if_pos rfl]) hr))
            · show spec_LotsOk.l0 (k + 1) l q c (i : Int) = _
              simp only [spec_LotsOk.l0]
              rw [if_pos (by omega), if_pos (by omega)]
              simp only [rdL, hx, right_s, Option.bind_some, decide_eq_true_iff]
              rw [if_pos hf, if_neg (by omega)]
            · show spec_LotsOk.j1 (k + 1) l q c (i : Int) false x.f0 x.f1 x.f2 x.f3 x.f4 = _
              simp only [spec_LotsOk.j1]
              rw [if_neg (by decide), if_pos hz]
        · rw [if_neg (fun g => hf g.1)]
          refine .inl (Ev.step (f := fun k => spec_LotsOk.j1 k l q c (i : Int) true x.f0 x.f1 x.f2 x.f3 x.f4) (fun k => ?_) (Ev_one fun k => ?_))
          · show spec_LotsOk.l0 (k + 1) l q c (i : Int) = _
            simp only [spec_LotsOk.l0]
            rw [if_pos (by omega), if_pos (by omega)]
            simp only [rdL, hx, right_s, Option.bind_some, decide_eq_true_iff]
            rw [if_neg hf]
          · show spec_LotsOk.j1 (k + 1) l q c (i : Int) true x.f0 x.f1 x.f2 x.f3 x.f4 = _
            simp only [spec_LotsOk.j1]
            rw [if_pos trivial]) l.length 0 (0, 0) (by omega) (by omega) ⟨by decide, by decide, by decide, by decide⟩
    refine Ev.congr (fun k => by rw [if_neg hn]; rfl) h
end Go.Proofs.YtmfgajbkcnlkcaaGreat.E1
namespace Go.Proofs.YtmfgajbkcnlkcaaGreat.E2
open Go Go.RowKit Go.Proofs.YtmfgajbkcnlkcaaGreat.P Go.Proofs.YtmfgajbkcnlkcaaGreatW.PrintWords Go.Proofs.YtmfgajbkcnlkcaaGreatW.PrintLast Go.Proofs.YtmfgajbkcnlkcaaGreat.EV Go.Proofs.YtmfgajbkcnlkcaaGreat.I1 Go.Proofs.YtmfgajbkcnlkcaaGreat.N1 Go.Proofs.YtmfgajbkcnlkcaaGreat.E1
def Own (a b : Int) (x : SL) : Bool := decide (x.f0 = a ∧ x.f1 = b)
def ofL (a b : Int) (l : List SL) : List SL := l.filter (Own a b)
def outL (a b : Int) (l : List SL) : List SL := l.filter fun x => !Own a b x
theorem of_len (a b : Int) (l : List SL) : (ofL a b l).length ≤ l.length := List.length_filter_le _ _
theorem split_s (l : List SL) (a b : Int) (hl : l.length ≤ 1048577) : Ev (fun k => spec_l5Split.f k l a b) (ofL a b l, outL a b l) := by
  unfold spec_l5Split.f
  have h := Ev_goes (fun k (s : List SL × List SL) i => spec_l5Split.l0 k l a b s.1 s.2 i) l.length (fun i s => (s.1 ++ ofL a b (l.drop i), s.2 ++ outL a b (l.drop i))) (fun i s => s.1.length ≤ i ∧ s.2.length ≤ i)
    (fun s _ => Ev_one fun k => by
      simp only [spec_l5Split.l0]
      rw [if_neg (by omega), List.drop_length]
      simp [ofL, outL])
    (fun i s hi hs => by
      obtain ⟨p, q⟩ := s
      simp only at hs
      have e : l.drop i = l.getD i z110 :: l.drop (i + 1) := drop_getD z110 l i hi
      by_cases h1 : (l.getD i z110).f0 = a ∧ (l.getD i z110).f1 = b
      · refine .inr ⟨(p ++ [l.getD i z110], q), ⟨by show (p ++ [_]).length ≤ i + 1; rw [List.length_append, List.length_singleton]; omega, Nat.le_succ_of_le hs.2⟩, ?_, fun k => ?_⟩
        · have hO : Own a b (l.getD i z110) = true := decide_eq_true h1
          rw [e]
          simp only [ofL, outL]
          rw [List.filter_cons_of_pos hO, List.filter_cons_of_neg (by rw [hO]; decide), List.append_assoc]
          rfl
        · show spec_l5Split.l0 (k + 1) l a b p q (i : Int) = _
          simp only [spec_l5Split.l0]
          rw [if_pos (by omega), if_pos (by omega), w_succ hi (by omega)]
          simp only [rdL]
          rw [if_pos h1.1, if_pos h1.2, if_pos (by omega)]
      · have step : ∀ k, spec_l5Split.l0 (k + 1) l a b p q (i : Int) = spec_l5Split.l0 k l a b p (q ++ [l.getD i z110]) ((i + 1 : Nat) : Int) := fun k => by
          simp only [spec_l5Split.l0]
          rw [if_pos (by omega), if_pos (by omega), w_succ hi (by omega)]
          simp only [rdL]
          by_cases h2 : (l.getD i z110).f0 = a
          · rw [if_pos h2, if_neg fun h3 => h1 ⟨h2, h3⟩, if_pos (by omega)]
          · rw [if_neg h2, if_pos (by omega)]
        refine .inr ⟨(p, q ++ [l.getD i z110]), ⟨Nat.le_succ_of_le hs.1, by show (q ++ [_]).length ≤ i + 1; rw [List.length_append, List.length_singleton]; omega⟩, ?_, step⟩
        have hO : Own a b (l.getD i z110) = false := decide_eq_false h1
        rw [e]
        simp only [ofL, outL]
        rw [List.filter_cons_of_neg (by rw [hO]; decide), List.filter_cons_of_pos (by rw [hO]; decide), List.append_assoc]
        rfl) l.length 0 ([], []) (by omega) (by omega) ⟨Nat.le_refl _, Nat.le_refl _⟩
  exact h
theorem qty_s (l : List SL) (hl : l.length ≤ 1048577) : Ev (fun k => spec_l5Qty.f k l) (impl_LotsOk.sum3 l 0) := by
  unfold spec_l5Qty.f
  have h := Ev_goes (fun k (s : Int) i => spec_l5Qty.l0 k l s i) l.length (fun i s => impl_LotsOk.sum3 (l.drop i) s) (fun _ _ => True)
    (fun s _ => Ev_one fun k => by
      simp only [spec_l5Qty.l0]
      rw [if_neg (by omega), List.drop_length]
      rfl)
    (fun i s hi _ => .inr ⟨wrap64 (s + (l.getD i z110).f3), trivial, by rw [drop_getD z110 l i hi]; rfl, fun k => by
      show spec_l5Qty.l0 (k + 1) l s (i : Int) = _
      simp only [spec_l5Qty.l0]
      rw [if_pos (by omega), if_pos (by omega), w_succ hi (by omega), rdL]⟩) l.length 0 0 (by omega) (by omega) trivial
  exact h
theorem sums_i (l : List SL) (hl : l.length ≤ 1048577) : Ev (fun k => impl_sumLots.f k l) (impl_LotsOk.sum3 l 0, impl_LotsOk.sum4 l 0) := by
  unfold impl_sumLots.f
  have h := Ev_goes (fun k (s : Int × Int) i => impl_sumLots.l0 k s.1 s.2 l (l.length : Int) i) l.length (fun i s => (impl_LotsOk.sum3 (l.drop i) s.1, impl_LotsOk.sum4 (l.drop i) s.2)) (fun _ _ => True)
    (fun s _ => Ev_one fun k => by
      simp only [impl_sumLots.l0]
      rw [if_neg (by omega), List.drop_length]
      rfl)
    (fun i s hi _ => .inr ⟨(wrap64 (s.1 + (l.getD i z110).f3), wrap64 (s.2 + (l.getD i z110).f4)), trivial, by rw [drop_getD z110 l i hi]; rfl, fun k => by
      show impl_sumLots.l0 (k + 1) s.1 s.2 l (l.length : Int) (i : Int) = _
      simp only [impl_sumLots.l0]
      rw [if_pos (by omega), if_pos (by omega), if_pos (by omega), w_succ hi (by omega), rdL]⟩) l.length 0 (0, 0) (by omega) (by omega) trivial
  exact h
end Go.Proofs.YtmfgajbkcnlkcaaGreat.E2
namespace Go.Proofs.YtmfgajbkcnlkcaaGreat.K1
open Go Go.RowKit Go.Proofs.YtmfgajbkcnlkcaaGreat.P Go.Proofs.YtmfgajbkcnlkcaaGreatW.PrintWords Go.Proofs.YtmfgajbkcnlkcaaGreatW.PrintLast Go.Proofs.YtmfgajbkcnlkcaaGreat.EV Go.Proofs.YtmfgajbkcnlkcaaGreat.C1 Go.Proofs.YtmfgajbkcnlkcaaGreat.C2 Go.Proofs.YtmfgajbkcnlkcaaGreat.B1 Go.Proofs.YtmfgajbkcnlkcaaGreat.B2
theorem Ev_walk (l : Nat → Int → Option Bool) (n : Nat) (G : Nat → Prop)
    (hs : ∀ i : Nat, i < n → (G i ∧ ∀ r, Ev (fun k => l k ((i + 1 : Nat) : Int)) r → Ev (fun k => l k (i : Int)) r) ∨ (¬ G i ∧ Ev (fun k => l k (i : Int)) false)) :
    ∀ (d i : Nat), n - i = d → i ≤ n → ((∀ j, i ≤ j → j < n → G j) ∧ ∀ r, Ev (fun k => l k (n : Int)) r → Ev (fun k => l k (i : Int)) r) ∨ (¬ (∀ j, i ≤ j → j < n → G j) ∧ Ev (fun k => l k (i : Int)) false) := by
  intro d
  induction d with
  | zero =>
    intro i hd hi
    obtain rfl : i = n := by omega
    exact .inl ⟨fun j h1 h2 => by omega, fun r hr => hr⟩
  | succ d ih =>
    intro i hd hi
    rcases hs i (by omega) with ⟨hg, he⟩ | ⟨hg, he⟩
    · rcases ih (i + 1) (by omega) (by omega) with ⟨h1, h2⟩ | ⟨h1, h2⟩
      · refine .inl ⟨fun j h3 h4 => ?_, fun r hr => he r (h2 r hr)⟩
        rcases Nat.eq_or_lt_of_le h3 with h5 | h5
        · exact h5 ▸ hg
        · exact h1 j h5 h4
      · exact .inr ⟨fun h => h1 fun j h3 h4 => h j (by omega) h4, he _ h2⟩
    · exact .inr ⟨fun h => hg (h i (Nat.le_refl _) (by omega)), he⟩
theorem told_z {n : Int} (h : n = 0) : told n true = (0, true) := by
  subst h
  unfold told
  rw [if_pos ⟨rfl, by unfold N1.Amt; omega⟩]
theorem told_nz {n : Int} (h : n ≠ 0) (g : (told n true).2 = true) : (told n true).1 ≠ 0 := by
  unfold told at g ⊢
  split at g
  · rename_i h1
    rw [if_pos h1]
    exact h
  · exact absurd g (by decide)
section
variable (A : List S80) (I : List S84) (B : List S106) (L : List S110) (T : List S60) (d : Int)
theorem kA_s {A : List S80} (hA : okA A = true) (m : A.length ≤ 9223372036854775807) (no : Int) : Ev (fun k => spec_AccountKind.f k A no) (kindA A no) := by
  have h := kindOkA_s A no m
  unfold kindOkA at h
  rwa [if_pos hA] at h
theorem kI_s {I : List S84} (hI : okI I = true) (m : I.length ≤ 9223372036854775807) (no : Int) : Ev (fun k => spec_InstrKind.f k I no) (kindI I no) := by
  have h := kindOkI_s I no m
  unfold kindOkI at h
  rwa [if_pos hI] at h
def GB (j : Nat) : Prop := kindA A (B.getD j z106).f0 ≠ 0 ∧ kindI I (B.getD j z106).f1 ≠ 0 ∧ ¬(kindA A (B.getD j z106).f0 = 1 ∧ (B.getD j z106).f2 < 0) ∧ sumB (B.getD j z106).f1 B = 0
theorem bals_s (hA : okA A = true) (hI : okI I = true) (hB : OkB B) (mA : A.length ≤ 9223372036854775807) (mI : I.length ≤ 9223372036854775807) : ∃ r, Ev (fun k => spec_l6Bals.f k A I B L T d) r ∧ (r = true ↔ ∀ j, j < B.length → GB A I B j) := by
  have hl := hB.1
  have eS : ∀ a, balsSum B a = told (sumB a B) true := fun a => by unfold balsSum; rw [if_pos ((okB_iff B).2 hB)]
  unfold spec_l6Bals.f
  obtain ⟨r, hr, hiff⟩ := Ev_asks' (fun k i => spec_l6Bals.l0 k i A I B L T d) B.length (GB A I B) true
    (Ev_one fun k => by simp only [spec_l6Bals.l0]; rw [if_neg (by omega)])
    (fun i hi => by
      obtain ⟨x, hx⟩ : ∃ x, B.getD i z106 = x := ⟨_, rfl⟩
      have e : ∀ k, spec_l6Bals.l0 (k + 1) (i : Int) A I B L T d = (spec_AccountKind.f k A x.f0).bind fun t => (if t = 0 then spec_l6Bals.j1 k (i : Int) true A I B L T d x.f0 x.f1 x.f2 else ((spec_InstrKind.f k I x.f1).bind fun u => if u = 0 then spec_l6Bals.j1 k (i : Int) true A I B L T d x.f0 x.f1 x.f2 else (if t = 1 then spec_l6Bals.j1 k (i : Int) (decide (x.f2 < 0)) A I B L T d x.f0 x.f1 x.f2 else spec_l6Bals.j1 k (i : Int) false A I B L T d x.f0 x.f1 x.f2))) := fun k => by
        simp only [spec_l6Bals.l0]
        rw [if_pos (by omega), if_pos (by omega)]
        simp only [rdB, hx]
      have et : Ev (fun k => spec_l6Bals.j1 k (i : Int) true A I B L T d x.f0 x.f1 x.f2) false := Ev_one fun k => by simp only [spec_l6Bals.j1]; rw [if_pos trivial]
      have ef : ∀ k, spec_l6Bals.j1 (k + 1) (i : Int) false A I B L T d x.f0 x.f1 x.f2 = (spec_BalsSum.f k B x.f1).bind fun bt => if bt.2 = true then (if bt.1 = 0 then spec_l6Bals.l0 k ((i + 1 : Nat) : Int) A I B L T d else some false) else some false := fun k => by
        simp only [spec_l6Bals.j1]
        rw [if_neg (by decide), w_succ hi (by omega)]
      have hf0 : sumB x.f1 B = 0 → ∀ r, Ev (fun k => spec_l6Bals.l0 k ((i + 1 : Nat) : Int) A I B L T d) r → Ev (fun k => spec_l6Bals.j1 k (i : Int) false A I B L T d x.f0 x.f1 x.f2) r := fun h r hr => by
        have q := balsSum_s B x.f1
        rw [eS, told_z h] at q
        exact Ev.step ef (Ev_bind q (Ev.congr (fun k => if_pos rfl) (Ev.congr (fun k => if_pos rfl) hr)))
      have hf1 : sumB x.f1 B ≠ 0 → Ev (fun k => spec_l6Bals.j1 k (i : Int) false A I B L T d x.f0 x.f1 x.f2) false := fun h => by
        have q := balsSum_s B x.f1
        rw [eS] at q
        refine Ev.step ef (Ev_bind q ?_)
        by_cases g : (told (sumB x.f1 B) true).2 = true
        · exact Ev.congr (fun k => if_pos g) (Ev_all_k fun k => if_neg (told_nz h g))
        · exact Ev_all_k fun k => if_neg g
      unfold GB
      rw [hx]
      by_cases h0 : kindA A x.f0 = 0
      · exact .inr ⟨fun g => g.1 h0, Ev.step e (Ev_bind (kA_s hA mA x.f0) (Ev.congr (fun k => if_pos h0) et))⟩
      · by_cases h1 : kindI I x.f1 = 0
        · exact .inr ⟨fun g => g.2.1 h1, Ev.step e (Ev_bind (kA_s hA mA x.f0) (Ev.congr (fun k => if_neg h0) (Ev_bind (kI_s hI mI x.f1) (Ev.congr (fun k => if_pos h1) et))))⟩
        · have mid : ∀ r, (Ev (fun k => if kindA A x.f0 = 1 then spec_l6Bals.j1 k (i : Int) (decide (x.f2 < 0)) A I B L T d x.f0 x.f1 x.f2 else spec_l6Bals.j1 k (i : Int) false A I B L T d x.f0 x.f1 x.f2) r) → Ev (fun k => spec_l6Bals.l0 k (i : Int) A I B L T d) r := fun r hr => Ev.step e (Ev_bind (kA_s hA mA x.f0) (Ev.congr (fun k => if_neg h0) (Ev_bind (kI_s hI mI x.f1) (Ev.congr (fun k => if_neg h1) hr))))
          by_cases h2 : kindA A x.f0 = 1 ∧ x.f2 < 0
          · exact .inr ⟨fun g => g.2.2.1 h2, mid _ (Ev.congr (fun k => by rw [if_pos h2.1, decide_eq_true h2.2]) et)⟩
          · have ej : ∀ k, (if kindA A x.f0 = 1 then spec_l6Bals.j1 k (i : Int) (decide (x.f2 < 0)) A I B L T d x.f0 x.f1 x.f2 else spec_l6Bals.j1 k (i : Int) false A I B L T d x.f0 x.f1 x.f2) = spec_l6Bals.j1 k (i : Int) false A I B L T d x.f0 x.f1 x.f2 := fun k => by
              by_cases h3 : kindA A x.f0 = 1
              · rw [if_pos h3, decide_eq_false (fun g => h2 ⟨h3, g⟩)]
              · rw [if_neg h3]
            by_cases h4 : sumB x.f1 B = 0
            · exact .inl ⟨⟨h0, h1, h2, h4⟩, fun r hr => mid r (Ev.congr ej (hf0 h4 r hr))⟩
            · exact .inr ⟨fun g => h4 g.2.2.2, mid _ (Ev.congr ej (hf1 h4))⟩) B.length 0 (by omega) (by omega)
  refine ⟨r, hr, ?_⟩
  rw [hiff]
  exact ⟨fun h i hi => h.1 i (Nat.zero_le _) hi, fun h => ⟨fun i _ hi => h i hi, rfl⟩⟩
theorem bals_i (hB : OkB B) (mA : A.length ≤ 9223372036854775807) (mI : I.length ≤ 9223372036854775807) : ∃ r, Ev (fun k => impl_balsRight.f k A I B L T d) r ∧ (r = true ↔ ∀ j, j < B.length → GB A I B j) := by
  have hl := hB.1
  unfold impl_balsRight.f
  obtain ⟨r, hr, hiff⟩ := Ev_asks' (fun k i => impl_balsRight.l0 k B (B.length : Int) i A I B L T d) B.length (GB A I B) true
    (Ev_one fun k => by simp only [impl_balsRight.l0]; rw [if_neg (by omega)])
    (fun i hi => by
      obtain ⟨x, hx⟩ : ∃ x, B.getD i z106 = x := ⟨_, rfl⟩
      have e : ∀ k, impl_balsRight.l0 (k + 1) B (B.length : Int) (i : Int) A I B L T d = (impl_accountKind.f k A x.f0).bind fun t => (if t = 0 then some false else ((impl_instrKind.f k I x.f1).bind fun u => if u = 0 then some false else (if t = 1 then (if x.f2 < 0 then some false else ((impl_balsSum.f k B x.f1).bind fun s => if s = 0 then impl_balsRight.l0 k B (B.length : Int) ((i + 1 : Nat) : Int) A I B L T d else some false)) else ((impl_balsSum.f k B x.f1).bind fun s => if s = 0 then impl_balsRight.l0 k B (B.length : Int) ((i + 1 : Nat) : Int) A I B L T d else some false)))) := fun k => by
        simp only [impl_balsRight.l0]
        rw [if_pos (by omega), if_pos (by omega), if_pos (by omega), w_succ hi (by omega)]
        simp only [rdB, hx]
      have hf0 : sumB x.f1 B = 0 → ∀ r, Ev (fun k => impl_balsRight.l0 k B (B.length : Int) ((i + 1 : Nat) : Int) A I B L T d) r → Ev (fun k => (impl_balsSum.f k B x.f1).bind fun s => if s = 0 then impl_balsRight.l0 k B (B.length : Int) ((i + 1 : Nat) : Int) A I B L T d else some false) r := fun h r hr => Ev_bind (sum_i hB x.f1) (Ev.congr (fun k => if_pos h) hr)
      have hf1 : sumB x.f1 B ≠ 0 → Ev (fun k => (impl_balsSum.f k B x.f1).bind fun s => if s = 0 then impl_balsRight.l0 k B (B.length : Int) ((i + 1 : Nat) : Int) A I B L T d else some false) false := fun h => Ev_bind (sum_i hB x.f1) (Ev_all_k fun k => if_neg h)
      unfold GB
      rw [hx]
      by_cases h0 : kindA A x.f0 = 0
      · exact .inr ⟨fun g => g.1 h0, Ev.step e (Ev_bind (kindL_i A x.f0 mA) (Ev_all_k fun k => if_pos h0))⟩
      · by_cases h1 : kindI I x.f1 = 0
        · exact .inr ⟨fun g => g.2.1 h1, Ev.step e (Ev_bind (kindL_i A x.f0 mA) (Ev.congr (fun k => if_neg h0) (Ev_bind (kindM_i I x.f1 mI) (Ev_all_k fun k => if_pos h1))))⟩
        · have mid : ∀ r, (Ev (fun k => if kindA A x.f0 = 1 then (if x.f2 < 0 then some false else ((impl_balsSum.f k B x.f1).bind fun s => if s = 0 then impl_balsRight.l0 k B (B.length : Int) ((i + 1 : Nat) : Int) A I B L T d else some false)) else ((impl_balsSum.f k B x.f1).bind fun s => if s = 0 then impl_balsRight.l0 k B (B.length : Int) ((i + 1 : Nat) : Int) A I B L T d else some false)) r) → Ev (fun k => impl_balsRight.l0 k B (B.length : Int) (i : Int) A I B L T d) r := fun r hr => Ev.step e (Ev_bind (kindL_i A x.f0 mA) (Ev.congr (fun k => if_neg h0) (Ev_bind (kindM_i I x.f1 mI) (Ev.congr (fun k => if_neg h1) hr))))
          by_cases h2 : kindA A x.f0 = 1 ∧ x.f2 < 0
          · exact .inr ⟨fun g => g.2.2.1 h2, mid _ (Ev_all_k fun k => by rw [if_pos h2.1, if_pos h2.2])⟩
          · have ej : ∀ k, (if kindA A x.f0 = 1 then (if x.f2 < 0 then some false else ((impl_balsSum.f k B x.f1).bind fun s => if s = 0 then impl_balsRight.l0 k B (B.length : Int) ((i + 1 : Nat) : Int) A I B L T d else some false)) else ((impl_balsSum.f k B x.f1).bind fun s => if s = 0 then impl_balsRight.l0 k B (B.length : Int) ((i + 1 : Nat) : Int) A I B L T d else some false)) = ((impl_balsSum.f k B x.f1).bind fun s => if s = 0 then impl_balsRight.l0 k B (B.length : Int) ((i + 1 : Nat) : Int) A I B L T d else some false) := fun k => by
              by_cases h3 : kindA A x.f0 = 1
              · rw [if_pos h3, if_neg (fun g => h2 ⟨h3, g⟩)]
              · rw [if_neg h3]
            by_cases h4 : sumB x.f1 B = 0
            · exact .inl ⟨⟨h0, h1, h2, h4⟩, fun r hr => mid r (Ev.congr ej (hf0 h4 r hr))⟩
            · exact .inr ⟨fun g => h4 g.2.2.2, mid _ (Ev.congr ej (hf1 h4))⟩) B.length 0 (by omega) (by omega)
  refine ⟨r, hr, ?_⟩
  rw [hiff]
  exact ⟨fun h i hi => h.1 i (Nat.zero_le _) hi, fun h => ⟨fun i _ hi => h i hi, rfl⟩⟩
def GL (j : Nat) : Prop := kindA A (L.getD j z110).f0 = 1 ∧ kindI I (L.getD j z110).f1 = 2 ∧ ¬((L.getD j z110).f2 > d)
def GQ (i j : Nat) : Prop := ((A.getD i z80).f1 = 1 ∧ (I.getD j z84).f1 = 2) → impl_LotsOk.sum3 (E2.ofL (A.getD i z80).f0 (I.getD j z84).f0 L) 0 = ofB (A.getD i z80).f0 (I.getD j z84).f0 B
def GP (i : Nat) : Prop := ∀ j, 0 ≤ j → j < I.length → GQ A I B L i j
theorem lots_s (hA : okA A = true) (hI : okI I = true) (mA : A.length ≤ 1048576) (mI : I.length ≤ 1048576) (mB : B.length ≤ 1048576) (mL : L.length ≤ 1048576) : ∃ r, Ev (fun k => spec_l6Lots.f k A I B L T d) r ∧ (r = true ↔ (∀ j, j < L.length → GL A I L d j) ∧ ∀ i, i < A.length → GP A I B L i) := by
  have two : ∀ i : Nat, i < A.length → ((∀ j, 0 ≤ j → j < I.length → GQ A I B L i j) ∧ ∀ r, Ev (fun k => spec_l6Lots.l2 k (i : Int) (I.length : Int) A I B L T d) r → Ev (fun k => spec_l6Lots.l2 k (i : Int) ((0 : Nat) : Int) A I B L T d) r) ∨ (¬(∀ j, 0 ≤ j → j < I.length → GQ A I B L i j) ∧ Ev (fun k => spec_l6Lots.l2 k (i : Int) ((0 : Nat) : Int) A I B L T d) false) := fun i hi =>
    Ev_walk (fun k j => spec_l6Lots.l2 k (i : Int) j A I B L T d) I.length (GQ A I B L i) (fun j hj => by
      obtain ⟨x, hx⟩ : ∃ x, A.getD i z80 = x := ⟨_, rfl⟩
      obtain ⟨y, hy⟩ : ∃ y, I.getD j z84 = y := ⟨_, rfl⟩
      have e : ∀ k, spec_l6Lots.l2 (k + 1) (i : Int) (j : Int) A I B L T d = if x.f1 = 1 then spec_l6Lots.j3 k (i : Int) (j : Int) (y.f1 == 2) A I B L T d else spec_l6Lots.j3 k (i : Int) (j : Int) false A I B L T d := fun k => by
        simp only [spec_l6Lots.l2]
        rw [if_pos (by omega), if_pos (by omega), if_pos (by omega)]
        simp only [rdA, rdI, hx, hy]
        split
        · rw [if_pos (by omega)]
        · rfl
      have ef : ∀ k, spec_l6Lots.j3 (k + 1) (i : Int) (j : Int) false A I B L T d = spec_l6Lots.l2 k (i : Int) ((j + 1 : Nat) : Int) A I B L T d := fun k => by
        simp only [spec_l6Lots.j3]
        rw [if_neg (by decide), w_succ hj (by omega)]
      have et : ∀ k, spec_l6Lots.j3 (k + 1) (i : Int) (j : Int) true A I B L T d = (spec_l5Split.f k L x.f0 y.f0).bind fun bt => ((spec_l5Qty.f k bt.1).bind fun q => ((spec_l4Of.f k B x.f0 y.f0).bind fun b => (if q = b then spec_l6Lots.l2 k (i : Int) ((j + 1 : Nat) : Int) A I B L T d else some false))) := fun k => by
        simp only [spec_l6Lots.j3]
        rw [if_pos trivial, if_pos (by omega), if_pos (by omega), if_pos (by omega), if_pos (by omega), w_succ hj (by omega)]
        simp only [rdA, rdI, hx, hy]
      unfold GQ
      rw [hx, hy]
      by_cases h1 : x.f1 = 1 ∧ y.f1 = 2
      · have mid : ∀ r, Ev (fun k => if impl_LotsOk.sum3 (E2.ofL x.f0 y.f0 L) 0 = ofB x.f0 y.f0 B then spec_l6Lots.l2 k (i : Int) ((j + 1 : Nat) : Int) A I B L T d else some false) r → Ev (fun k => spec_l6Lots.l2 k (i : Int) (j : Int) A I B L T d) r := fun r hr =>
          Ev.step e (Ev.congr (fun k => by rw [if_pos h1.1, show (y.f1 == 2) = true from beq_iff_eq.2 h1.2]) (Ev.step et (Ev_bind (E2.split_s L x.f0 y.f0 (by omega)) (Ev_bind (E2.qty_s (E2.ofL x.f0 y.f0 L) (by have := E2.of_len x.f0 y.f0 L; omega)) (Ev_bind (of_s B x.f0 y.f0 (by omega)) hr)))))
        by_cases h2 : impl_LotsOk.sum3 (E2.ofL x.f0 y.f0 L) 0 = ofB x.f0 y.f0 B
        · exact .inl ⟨fun _ => h2, fun r hr => mid r (Ev.congr (fun k => if_pos h2) hr)⟩
        · exact .inr ⟨fun g => h2 (g h1), mid _ (Ev_all_k fun k => if_neg h2)⟩
      · refine .inl ⟨fun g => absurd g h1, fun r hr => Ev.step e (Ev.congr (f := fun k => spec_l6Lots.j3 k (i : Int) (j : Int) false A I B L T d) (fun k => ?_) (Ev.step ef hr))⟩
        by_cases h3 : x.f1 = 1
        · rw [if_pos h3, show (y.f1 == 2) = false from beq_eq_false_iff_ne.2 (fun g => h1 ⟨h3, g⟩)]
        · rw [if_neg h3]) I.length 0 (by omega) (by omega)
  obtain ⟨r1, hr1, hiff1⟩ := Ev_asks' (fun k i => spec_l6Lots.l1 k i A I B L T d) A.length (GP A I B L) true
    (Ev_one fun k => by simp only [spec_l6Lots.l1]; rw [if_neg (by omega)])
    (fun i hi => by
      have e : ∀ k, spec_l6Lots.l1 (k + 1) (i : Int) A I B L T d = spec_l6Lots.l2 k (i : Int) ((0 : Nat) : Int) A I B L T d := fun k => by
        simp only [spec_l6Lots.l1]
        rw [if_pos (by omega)]
        rfl
      rcases two i hi with ⟨h1, h2⟩ | ⟨h1, h2⟩
      · exact .inl ⟨h1, fun r hr => Ev.step e (h2 r (Ev.step (fun k => by simp only [spec_l6Lots.l2]; rw [if_neg (by omega), w_succ hi (by omega)]) hr))⟩
      · exact .inr ⟨h1, Ev.step e h2⟩) A.length 0 (by omega) (by omega)
  unfold spec_l6Lots.f
  obtain ⟨r, hr, hiff⟩ := Ev_asks' (fun k i => spec_l6Lots.l0 k i A I B L T d) L.length (GL A I L d) r1
    (Ev.step (fun k => by simp only [spec_l6Lots.l0]; rw [if_neg (by omega)]; rfl) hr1)
    (fun i hi => by
      obtain ⟨x, hx⟩ : ∃ x, L.getD i z110 = x := ⟨_, rfl⟩
      have e : ∀ k, spec_l6Lots.l0 (k + 1) (i : Int) A I B L T d = (spec_AccountKind.f k A x.f0).bind fun t => (if t = 1 then ((spec_InstrKind.f k I x.f1).bind fun u => if u = 2 then (if x.f2 > d then some false else spec_l6Lots.l0 k ((i + 1 : Nat) : Int) A I B L T d) else some false) else some false) := fun k => by
        simp only [spec_l6Lots.l0]
        rw [if_pos (by omega), if_pos (by omega), w_succ hi (by omega)]
        simp only [E1.rdL, hx]
      unfold GL
      rw [hx]
      by_cases h0 : kindA A x.f0 = 1
      · by_cases h1 : kindI I x.f1 = 2
        · have mid : ∀ r, Ev (fun k => if x.f2 > d then some false else spec_l6Lots.l0 k ((i + 1 : Nat) : Int) A I B L T d) r → Ev (fun k => spec_l6Lots.l0 k (i : Int) A I B L T d) r := fun r hr => Ev.step e (Ev_bind (kA_s hA (by omega) x.f0) (Ev.congr (fun k => if_pos h0) (Ev_bind (kI_s hI (by omega) x.f1) (Ev.congr (fun k => if_pos h1) hr))))
          by_cases h2 : x.f2 > d
          · exact .inr ⟨fun g => g.2.2 h2, mid _ (Ev_all_k fun k => if_pos h2)⟩
          · exact .inl ⟨⟨h0, h1, h2⟩, fun r hr => mid r (Ev.congr (fun k => if_neg h2) hr)⟩
        · exact .inr ⟨fun g => h1 g.2.1, Ev.step e (Ev_bind (kA_s hA (by omega) x.f0) (Ev.congr (fun k => if_pos h0) (Ev_bind (kI_s hI (by omega) x.f1) (Ev_all_k fun k => if_neg h1))))⟩
      · exact .inr ⟨fun g => h0 g.1, Ev.step e (Ev_bind (kA_s hA (by omega) x.f0) (Ev_all_k fun k => if_neg h0))⟩) L.length 0 (by omega) (by omega)
  refine ⟨r, hr, ?_⟩
  rw [hiff, hiff1]
  exact ⟨fun h => ⟨fun i hi => h.1 i (Nat.zero_le _) hi, fun i hi => h.2.1 i (Nat.zero_le _) hi⟩, fun h => ⟨fun i _ hi => h.1 i hi, fun i _ hi => h.2 i hi, rfl⟩⟩
theorem lots_i (hB : OkB B) (mA : A.length ≤ 1048576) (mI : I.length ≤ 1048576) (mL : L.length ≤ 1048576) : ∃ r, Ev (fun k => impl_lotsRight.f k A I B L T d) r ∧ (r = true ↔ (∀ j, j < L.length → GL A I L d j) ∧ ∀ i, i < A.length → GP A I B L i) := by
  have two : ∀ i : Nat, i < A.length → ((∀ j, 0 ≤ j → j < I.length → GQ A I B L i j) ∧ ∀ r, Ev (fun k => impl_lotsRight.l2 k A (A.length : Int) (i : Int) I (I.length : Int) (I.length : Int) A I B L T d (A.getD i z80).f0 (A.getD i z80).f1) r → Ev (fun k => impl_lotsRight.l2 k A (A.length : Int) (i : Int) I (I.length : Int) ((0 : Nat) : Int) A I B L T d (A.getD i z80).f0 (A.getD i z80).f1) r) ∨ (¬(∀ j, 0 ≤ j → j < I.length → GQ A I B L i j) ∧ Ev (fun k => impl_lotsRight.l2 k A (A.length : Int) (i : Int) I (I.length : Int) ((0 : Nat) : Int) A I B L T d (A.getD i z80).f0 (A.getD i z80).f1) false) := fun i hi =>
    Ev_walk (fun k j => impl_lotsRight.l2 k A (A.length : Int) (i : Int) I (I.length : Int) j A I B L T d (A.getD i z80).f0 (A.getD i z80).f1) I.length (GQ A I B L i) (fun j hj => by
      obtain ⟨x, hx⟩ : ∃ x, A.getD i z80 = x := ⟨_, rfl⟩
      obtain ⟨y, hy⟩ : ∃ y, I.getD j z84 = y := ⟨_, rfl⟩
      rw [hx]
      have e : ∀ k, impl_lotsRight.l2 (k + 1) A (A.length : Int) (i : Int) I (I.length : Int) (j : Int) A I B L T d x.f0 x.f1 = if x.f1 = 1 then impl_lotsRight.j3 k A (A.length : Int) (i : Int) I (I.length : Int) (j : Int) (y.f1 != 2) A I B L T d x.f0 x.f1 y.f0 y.f1 else impl_lotsRight.j3 k A (A.length : Int) (i : Int) I (I.length : Int) (j : Int) true A I B L T d x.f0 x.f1 y.f0 y.f1 := fun k => by
        simp only [impl_lotsRight.l2]
        rw [if_pos (by omega), if_pos (by omega), if_pos (by omega)]
        simp only [rdI, hy]
      have ef : ∀ k, impl_lotsRight.j3 (k + 1) A (A.length : Int) (i : Int) I (I.length : Int) (j : Int) true A I B L T d x.f0 x.f1 y.f0 y.f1 = impl_lotsRight.l2 k A (A.length : Int) (i : Int) I (I.length : Int) ((j + 1 : Nat) : Int) A I B L T d x.f0 x.f1 := fun k => by
        simp only [impl_lotsRight.j3]
        rw [if_pos trivial, w_succ hj (by omega)]
      have et : ∀ k, impl_lotsRight.j3 (k + 1) A (A.length : Int) (i : Int) I (I.length : Int) (j : Int) false A I B L T d x.f0 x.f1 y.f0 y.f1 = (impl_sumLots.f k (E2.ofL x.f0 y.f0 L)).bind fun bt => ((impl_balOf.f k B x.f0 y.f0).bind fun b => (if bt.1 = b then impl_lotsRight.l2 k A (A.length : Int) (i : Int) I (I.length : Int) ((j + 1 : Nat) : Int) A I B L T d x.f0 x.f1 else some false)) := fun k => by
        simp only [impl_lotsRight.j3]
        rw [if_neg (by decide), w_succ hj (by omega), show impl_lotsOf.f L x.f0 y.f0 = some (E2.ofL x.f0 y.f0 L) from if_pos (by omega), Option.bind_some]
      unfold GQ
      rw [hx, hy]
      by_cases h1 : x.f1 = 1 ∧ y.f1 = 2
      · have mid : ∀ r, Ev (fun k => if impl_LotsOk.sum3 (E2.ofL x.f0 y.f0 L) 0 = ofB x.f0 y.f0 B then impl_lotsRight.l2 k A (A.length : Int) (i : Int) I (I.length : Int) ((j + 1 : Nat) : Int) A I B L T d x.f0 x.f1 else some false) r → Ev (fun k => impl_lotsRight.l2 k A (A.length : Int) (i : Int) I (I.length : Int) (j : Int) A I B L T d x.f0 x.f1) r := fun r hr =>
          Ev.step e (Ev.congr (fun k => by rw [if_pos h1.1, show (y.f1 != 2) = false by rw [h1.2]; rfl]) (Ev.step et (Ev_bind (E2.sums_i (E2.ofL x.f0 y.f0 L) (by have := E2.of_len x.f0 y.f0 L; omega)) (Ev_bind (of_i hB x.f0 y.f0) hr))))
        by_cases h2 : impl_LotsOk.sum3 (E2.ofL x.f0 y.f0 L) 0 = ofB x.f0 y.f0 B
        · exact .inl ⟨fun _ => h2, fun r hr => mid r (Ev.congr (fun k => if_pos h2) hr)⟩
        · exact .inr ⟨fun g => h2 (g h1), mid _ (Ev_all_k fun k => if_neg h2)⟩
      · refine .inl ⟨fun g => absurd g h1, fun r hr => Ev.step e (Ev.congr (f := fun k => impl_lotsRight.j3 k A (A.length : Int) (i : Int) I (I.length : Int) (j : Int) true A I B L T d x.f0 x.f1 y.f0 y.f1) (fun k => ?_) (Ev.step ef hr))⟩
        by_cases h3 : x.f1 = 1
        · rw [if_pos h3, show (y.f1 != 2) = true from bne_iff_ne.2 (fun g => h1 ⟨h3, g⟩)]
        · rw [if_neg h3]) I.length 0 (by omega) (by omega)
  obtain ⟨r1, hr1, hiff1⟩ := Ev_asks' (fun k i => impl_lotsRight.l1 k A (A.length : Int) i A I B L T d) A.length (GP A I B L) true
    (Ev_one fun k => by simp only [impl_lotsRight.l1]; rw [if_neg (by omega)])
    (fun i hi => by
      have e : ∀ k, impl_lotsRight.l1 (k + 1) A (A.length : Int) (i : Int) A I B L T d = impl_lotsRight.l2 k A (A.length : Int) (i : Int) I (I.length : Int) ((0 : Nat) : Int) A I B L T d (A.getD i z80).f0 (A.getD i z80).f1 := fun k => by
        simp only [impl_lotsRight.l1]
        rw [if_pos (by omega), if_pos (by omega), if_pos (by omega)]
        simp only [rdA]
        rfl
      rcases two i hi with ⟨h1, h2⟩ | ⟨h1, h2⟩
      · exact .inl ⟨h1, fun r hr => Ev.step e (h2 r (Ev.step (fun k => by simp only [impl_lotsRight.l2]; rw [if_neg (by omega), w_succ hi (by omega)]) hr))⟩
      · exact .inr ⟨h1, Ev.step e h2⟩) A.length 0 (by omega) (by omega)
  unfold impl_lotsRight.f
  obtain ⟨r, hr, hiff⟩ := Ev_asks' (fun k i => impl_lotsRight.l0 k L (L.length : Int) i A I B L T d) L.length (GL A I L d) r1
    (Ev.step (fun k => by simp only [impl_lotsRight.l0]; rw [if_neg (by omega)]; rfl) hr1)
    (fun i hi => by
      obtain ⟨x, hx⟩ : ∃ x, L.getD i z110 = x := ⟨_, rfl⟩
      have e : ∀ k, impl_lotsRight.l0 (k + 1) L (L.length : Int) (i : Int) A I B L T d = (impl_accountKind.f k A x.f0).bind fun t => (if t = 1 then ((impl_instrKind.f k I x.f1).bind fun u => if u = 2 then (if x.f2 > d then some false else impl_lotsRight.l0 k L (L.length : Int) ((i + 1 : Nat) : Int) A I B L T d) else some false) else some false) := fun k => by
        simp only [impl_lotsRight.l0]
        rw [if_pos (by omega), if_pos (by omega), if_pos (by omega), w_succ hi (by omega)]
        simp only [E1.rdL, hx]
      unfold GL
      rw [hx]
      by_cases h0 : kindA A x.f0 = 1
      · by_cases h1 : kindI I x.f1 = 2
        · have mid : ∀ r, Ev (fun k => if x.f2 > d then some false else impl_lotsRight.l0 k L (L.length : Int) ((i + 1 : Nat) : Int) A I B L T d) r → Ev (fun k => impl_lotsRight.l0 k L (L.length : Int) (i : Int) A I B L T d) r := fun r hr => Ev.step e (Ev_bind (kindL_i A x.f0 (by omega)) (Ev.congr (fun k => if_pos h0) (Ev_bind (kindM_i I x.f1 (by omega)) (Ev.congr (fun k => if_pos h1) hr))))
          by_cases h2 : x.f2 > d
          · exact .inr ⟨fun g => g.2.2 h2, mid _ (Ev_all_k fun k => if_pos h2)⟩
          · exact .inl ⟨⟨h0, h1, h2⟩, fun r hr => mid r (Ev.congr (fun k => if_neg h2) hr)⟩
        · exact .inr ⟨fun g => h1 g.2.1, Ev.step e (Ev_bind (kindL_i A x.f0 (by omega)) (Ev.congr (fun k => if_pos h0) (Ev_bind (kindM_i I x.f1 (by omega)) (Ev_all_k fun k => if_neg h1))))⟩
      · exact .inr ⟨fun g => h0 g.1, Ev.step e (Ev_bind (kindL_i A x.f0 (by omega)) (Ev_all_k fun k => if_neg h0))⟩) L.length 0 (by omega) (by omega)
  refine ⟨r, hr, ?_⟩
  rw [hiff, hiff1]
  exact ⟨fun h => ⟨fun i hi => h.1 i (Nat.zero_le _) hi, fun i hi => h.2.1 i (Nat.zero_le _) hi⟩, fun h => ⟨fun i _ hi => h.1 i hi, fun i _ hi => h.2 i hi, rfl⟩⟩
def GT (x : S60) : Prop := kindA A x.f1 = 1 ∧ kindA A x.f2 = 1 ∧ kindI I x.f3 = 2 ∧ kindI I x.f5 = 1
theorem trades_s (hA : okA A = true) (hI : okI I = true) (mA : A.length ≤ 1048576) (mI : I.length ≤ 1048576) (mT : T.length ≤ 1048576) : ∃ r, Ev (fun k => spec_BooksOk.j0 k false A I B L T d) r ∧ (r = true ↔ ∀ j, j < T.length → GT A I (T.getD j z60)) := by
  obtain ⟨r, hr, hiff⟩ := Ev_asks' (fun k i => spec_BooksOk.l0 k i A I B L T d) T.length (fun j => GT A I (T.getD j z60)) true
    (Ev_one fun k => by simp only [spec_BooksOk.l0]; rw [if_neg (by omega)])
    (fun i hi => by
      obtain ⟨x, hx⟩ : ∃ x, T.getD i z60 = x := ⟨_, rfl⟩
      have e : ∀ k, spec_BooksOk.l0 (k + 1) (i : Int) A I B L T d = (spec_AccountKind.f k A x.f1).bind fun t => (if t = 1 then ((spec_AccountKind.f k A x.f2).bind fun t2 => if t2 = 1 then ((spec_InstrKind.f k I x.f3).bind fun u => if u = 2 then ((spec_InstrKind.f k I x.f5).bind fun u2 => if u2 = 1 then spec_BooksOk.l0 k ((i + 1 : Nat) : Int) A I B L T d else some false) else some false) else some false) else some false) := fun k => by
        simp only [spec_BooksOk.l0]
        rw [if_pos (by omega), if_pos (by omega), w_succ hi (by omega)]
        simp only [F1.rdT, hx]
      show (GT A I (T.getD i z60) ∧ _) ∨ (¬GT A I (T.getD i z60) ∧ _)
      rw [hx]
      unfold GT
      by_cases h0 : kindA A x.f1 = 1
      · by_cases h1 : kindA A x.f2 = 1
        · by_cases h2 : kindI I x.f3 = 2
          · by_cases h3 : kindI I x.f5 = 1
            · exact .inl ⟨⟨h0, h1, h2, h3⟩, fun r hr => Ev.step e (Ev_bind (kA_s hA (by omega) x.f1) (Ev.congr (fun k => if_pos h0) (Ev_bind (kA_s hA (by omega) x.f2) (Ev.congr (fun k => if_pos h1) (Ev_bind (kI_s hI (by omega) x.f3) (Ev.congr (fun k => if_pos h2) (Ev_bind (kI_s hI (by omega) x.f5) (Ev.congr (fun k => if_pos h3) hr))))))))⟩
            · exact .inr ⟨fun g => h3 g.2.2.2, Ev.step e (Ev_bind (kA_s hA (by omega) x.f1) (Ev.congr (fun k => if_pos h0) (Ev_bind (kA_s hA (by omega) x.f2) (Ev.congr (fun k => if_pos h1) (Ev_bind (kI_s hI (by omega) x.f3) (Ev.congr (fun k => if_pos h2) (Ev_bind (kI_s hI (by omega) x.f5) (Ev_all_k fun k => if_neg h3))))))))⟩
          · exact .inr ⟨fun g => h2 g.2.2.1, Ev.step e (Ev_bind (kA_s hA (by omega) x.f1) (Ev.congr (fun k => if_pos h0) (Ev_bind (kA_s hA (by omega) x.f2) (Ev.congr (fun k => if_pos h1) (Ev_bind (kI_s hI (by omega) x.f3) (Ev_all_k fun k => if_neg h2))))))⟩
        · exact .inr ⟨fun g => h1 g.2.1, Ev.step e (Ev_bind (kA_s hA (by omega) x.f1) (Ev.congr (fun k => if_pos h0) (Ev_bind (kA_s hA (by omega) x.f2) (Ev_all_k fun k => if_neg h1))))⟩
      · exact .inr ⟨fun g => h0 g.1, Ev.step e (Ev_bind (kA_s hA (by omega) x.f1) (Ev_all_k fun k => if_neg h0))⟩) T.length 0 (by omega) (by omega)
  refine ⟨r, Ev.step (fun k => by simp only [spec_BooksOk.j0]; rw [if_neg (by decide)]; rfl) hr, ?_⟩
  rw [hiff]
  exact ⟨fun h i hi => h.1 i (Nat.zero_le _) hi, fun h => ⟨fun i _ hi => h i hi, rfl⟩⟩
theorem ak_is (no : Int) : ∀ A : List S80, impl_tradesRight.ak A no = kindA A no
  | [] => rfl
  | x :: xs => by
    unfold impl_tradesRight.ak kindA
    rw [ak_is no xs]
theorem ik_is (no : Int) : ∀ I : List S84, impl_tradesRight.ik I no = kindI I no
  | [] => rfl
  | x :: xs => by
    unfold impl_tradesRight.ik kindI
    rw [ik_is no xs]
theorem bad_iff (x : S60) : impl_tradesRight.bad A I x = false ↔ GT A I x := by
  unfold impl_tradesRight.bad GT
  simp only [ak_is, ik_is, Bool.or_eq_false_iff, bne_eq_false_iff_eq, and_assoc]
theorem trades_i (mA : A.length ≤ 1048576) (mI : I.length ≤ 1048576) : ∃ r, impl_tradesRight.f A I B L T d = some r ∧ (r = true ↔ ∀ j, j < T.length → GT A I (T.getD j z60)) := by
  refine ⟨_, if_pos ⟨by omega, by omega⟩, ?_⟩
  rw [Bool.not_eq_true', List.any_eq_false]
  constructor
  · intro h j hj
    have hm : T.getD j z60 ∈ T := by
      rw [List.getD_eq_getElem?_getD, List.getElem?_eq_getElem hj]
      exact List.getElem_mem hj
    exact (bad_iff A I _).1 (Bool.eq_false_iff.2 (h _ hm))
  · intro h x hx
    obtain ⟨j, hj, e⟩ := List.mem_iff_getElem.1 hx
    have g := h j hj
    rw [List.getD_eq_getElem?_getD, List.getElem?_eq_getElem hj, Option.getD_some, e] at g
    exact Bool.eq_false_iff.1 ((bad_iff A I x).2 g)
theorem books_all (mA : A.length ≤ 1048576) (mI : I.length ≤ 1048576) (mB : B.length ≤ 1048576) (mL : L.length ≤ 1048576) (mT : T.length ≤ 1048576) : ∃ r, Ev (fun k => spec_BooksOk.f k A I B L T d) r ∧ Ev (fun k => impl_BooksOk.f k A I B L T d) r ∧ (r = true → okA A = true ∧ okI I = true ∧ okB B = true ∧ impl_LotsOk.ok L = true ∧ 0 ≤ d ∧ d ≤ 1000000000) := by
  unfold spec_BooksOk.f impl_BooksOk.f
  have sS : Ev (fun k => spec_BooksOk.j0 k true A I B L T d) false := Ev_one fun k => by simp only [spec_BooksOk.j0]; rw [if_pos trivial]
  have sI : Ev (fun k => impl_BooksOk.j0 k true A I B L T d) false := Ev_one fun k => by simp only [impl_BooksOk.j0]; rw [if_pos trivial]
  have s1 := accountsOk_s A
  have i1 := accountsOk_i A (by omega)
  have s2 := instrsOk_s I
  have i2 := instrsOk_i I (by omega)
  have s3 := balsOk_s B
  have i3 := balsOk_i B (by omega)
  have s4 := E1.lotsOk_s L
  have i4 : Ev (fun _ => impl_LotsOk.f L) (impl_LotsOk.ok L) := Ev_all_k fun _ => by unfold impl_LotsOk.f; rw [if_pos (by omega)]
  obtain ⟨rT, s5, i5⟩ := F1.trades_both T (by omega)
  have s6 : Ev (fun _ => spec_l1In.f d 0 1000000000) (decide (0 ≤ d ∧ d ≤ 1000000000)) := Ev_all_k fun _ => I1.in_s _ _ _
  have i6 : Ev (fun _ => impl_in.f d 0 1000000000) (decide (0 ≤ d ∧ d ≤ 1000000000)) := Ev_all_k fun _ => I1.in_i _ _ _
  cases q1 : okA A with
  | false =>
    rw [q1] at s1 i1
    exact ⟨false, Ev_bind s1 (Ev.congr (fun k => if_neg (by decide)) sS), Ev_bind i1 (Ev.congr (fun k => if_neg (by decide)) sI), nofun⟩
  | true =>
    rw [q1] at s1 i1
    cases q2 : okI I with
    | false =>
      rw [q2] at s2 i2
      exact ⟨false, Ev_bind s1 (Ev.congr (fun k => if_pos rfl) (Ev_bind s2 (Ev.congr (fun k => if_neg (by decide)) sS))), Ev_bind i1 (Ev.congr (fun k => if_pos rfl) (Ev_bind i2 (Ev.congr (fun k => if_neg (by decide)) sI))), nofun⟩
    | true =>
      rw [q2] at s2 i2
      cases q3 : okB B with
      | false =>
        rw [q3] at s3 i3
        exact ⟨false, Ev_bind s1 (Ev.congr (fun k => if_pos rfl) (Ev_bind s2 (Ev.congr (fun k => if_pos rfl) (Ev_bind s3 (Ev.congr (fun k => if_neg (by decide)) sS))))), Ev_bind i1 (Ev.congr (fun k => if_pos rfl) (Ev_bind i2 (Ev.congr (fun k => if_pos rfl) (Ev_bind i3 (Ev.congr (fun k => if_neg (by decide)) sI))))), nofun⟩
      | true =>
        rw [q3] at s3 i3
        cases q4 : impl_LotsOk.ok L with
        | false =>
          rw [q4] at s4 i4
          exact ⟨false, Ev_bind s1 (Ev.congr (fun k => if_pos rfl) (Ev_bind s2 (Ev.congr (fun k => if_pos rfl) (Ev_bind s3 (Ev.congr (fun k => if_pos rfl) (Ev_bind s4 (Ev.congr (fun k => if_neg (by decide)) sS))))))), Ev_bind i1 (Ev.congr (fun k => if_pos rfl) (Ev_bind i2 (Ev.congr (fun k => if_pos rfl) (Ev_bind i3 (Ev.congr (fun k => if_pos rfl) (Ev_bind i4 (Ev.congr (fun k => if_neg (by decide)) sI))))))), nofun⟩
        | true =>
          rw [q4] at s4 i4
          cases q5 : rT with
          | false =>
            rw [q5] at s5 i5
            exact ⟨false, Ev_bind s1 (Ev.congr (fun k => if_pos rfl) (Ev_bind s2 (Ev.congr (fun k => if_pos rfl) (Ev_bind s3 (Ev.congr (fun k => if_pos rfl) (Ev_bind s4 (Ev.congr (fun k => if_pos rfl) (Ev_bind s5 (Ev.congr (fun k => if_neg (by decide)) sS))))))))), Ev_bind i1 (Ev.congr (fun k => if_pos rfl) (Ev_bind i2 (Ev.congr (fun k => if_pos rfl) (Ev_bind i3 (Ev.congr (fun k => if_pos rfl) (Ev_bind i4 (Ev.congr (fun k => if_pos rfl) (Ev_bind i5 (Ev.congr (fun k => if_neg (by decide)) sI))))))))), nofun⟩
          | true =>
            rw [q5] at s5 i5
            cases q6 : decide (0 ≤ d ∧ d ≤ 1000000000) with
            | false =>
              rw [q6] at s6 i6
              exact ⟨false, Ev_bind s1 (Ev.congr (fun k => if_pos rfl) (Ev_bind s2 (Ev.congr (fun k => if_pos rfl) (Ev_bind s3 (Ev.congr (fun k => if_pos rfl) (Ev_bind s4 (Ev.congr (fun k => if_pos rfl) (Ev_bind s5 (Ev.congr (fun k => if_pos rfl) (Ev_bind s6 (Ev.congr (fun k => if_neg (by decide)) sS))))))))))), Ev_bind i1 (Ev.congr (fun k => if_pos rfl) (Ev_bind i2 (Ev.congr (fun k => if_pos rfl) (Ev_bind i3 (Ev.congr (fun k => if_pos rfl) (Ev_bind i4 (Ev.congr (fun k => if_pos rfl) (Ev_bind i5 (Ev.congr (fun k => if_pos rfl) (Ev_bind i6 sI)))))))))), nofun⟩
            | true =>
              rw [q6] at s6 i6
              have hB := (okB_iff B).1 q3
              obtain ⟨rb, b1, b2⟩ := bals_s A I B L T d q1 q2 hB (by omega) (by omega)
              obtain ⟨rb', b3, b4⟩ := bals_i A I B L T d hB (by omega) (by omega)
              obtain rfl : rb = rb' := by rw [Bool.eq_iff_iff, b2, b4]
              obtain ⟨rl, l1, l2⟩ := lots_s A I B L T d q1 q2 mA mI mB mL
              obtain ⟨rl', l3, l4⟩ := lots_i A I B L T d hB mA mI mL
              obtain rfl : rl = rl' := by rw [Bool.eq_iff_iff, l2, l4]
              obtain ⟨rt, t1, t2⟩ := trades_s A I B L T d q1 q2 mA mI mT
              obtain ⟨rt', t3, t4⟩ := trades_i A I B L T d mA mI
              obtain rfl : rt = rt' := by rw [Bool.eq_iff_iff, t2, t4]
              have ef : ∀ k, impl_BooksOk.j0 (k + 1) false A I B L T d = (impl_balsRight.f k A I B L T d).bind fun t => (if t = true then ((impl_lotsRight.f k A I B L T d).bind fun u => if u = true then ((impl_tradesRight.f A I B L T d).bind fun v => some v) else some false) else some false) := fun k => by
                simp only [impl_BooksOk.j0]
                rw [if_neg (by decide)]
              cases rb with
              | false => exact ⟨false, Ev_bind s1 (Ev.congr (fun k => if_pos rfl) (Ev_bind s2 (Ev.congr (fun k => if_pos rfl) (Ev_bind s3 (Ev.congr (fun k => if_pos rfl) (Ev_bind s4 (Ev.congr (fun k => if_pos rfl) (Ev_bind s5 (Ev.congr (fun k => if_pos rfl) (Ev_bind s6 (Ev.congr (fun k => if_pos rfl) (Ev_bind b1 (Ev.congr (fun k => if_neg (by decide)) sS))))))))))))), Ev_bind i1 (Ev.congr (fun k => if_pos rfl) (Ev_bind i2 (Ev.congr (fun k => if_pos rfl) (Ev_bind i3 (Ev.congr (fun k => if_pos rfl) (Ev_bind i4 (Ev.congr (fun k => if_pos rfl) (Ev_bind i5 (Ev.congr (fun k => if_pos rfl) (Ev_bind i6 (Ev.step ef (Ev_bind b3 (Ev_all_k fun k => if_neg (by decide)))))))))))))), nofun⟩
              | true =>
                cases rl with
                | false => exact ⟨false, Ev_bind s1 (Ev.congr (fun k => if_pos rfl) (Ev_bind s2 (Ev.congr (fun k => if_pos rfl) (Ev_bind s3 (Ev.congr (fun k => if_pos rfl) (Ev_bind s4 (Ev.congr (fun k => if_pos rfl) (Ev_bind s5 (Ev.congr (fun k => if_pos rfl) (Ev_bind s6 (Ev.congr (fun k => if_pos rfl) (Ev_bind b1 (Ev.congr (fun k => if_pos rfl) (Ev_bind l1 sS)))))))))))))), Ev_bind i1 (Ev.congr (fun k => if_pos rfl) (Ev_bind i2 (Ev.congr (fun k => if_pos rfl) (Ev_bind i3 (Ev.congr (fun k => if_pos rfl) (Ev_bind i4 (Ev.congr (fun k => if_pos rfl) (Ev_bind i5 (Ev.congr (fun k => if_pos rfl) (Ev_bind i6 (Ev.step ef (Ev_bind b3 (Ev.congr (fun k => if_pos rfl) (Ev_bind l3 (Ev_all_k fun k => if_neg (by decide)))))))))))))))), nofun⟩
                | true => exact ⟨rt, Ev_bind s1 (Ev.congr (fun k => if_pos rfl) (Ev_bind s2 (Ev.congr (fun k => if_pos rfl) (Ev_bind s3 (Ev.congr (fun k => if_pos rfl) (Ev_bind s4 (Ev.congr (fun k => if_pos rfl) (Ev_bind s5 (Ev.congr (fun k => if_pos rfl) (Ev_bind s6 (Ev.congr (fun k => if_pos rfl) (Ev_bind b1 (Ev.congr (fun k => if_pos rfl) (Ev_bind l1 t1)))))))))))))), Ev_bind i1 (Ev.congr (fun k => if_pos rfl) (Ev_bind i2 (Ev.congr (fun k => if_pos rfl) (Ev_bind i3 (Ev.congr (fun k => if_pos rfl) (Ev_bind i4 (Ev.congr (fun k => if_pos rfl) (Ev_bind i5 (Ev.congr (fun k => if_pos rfl) (Ev_bind i6 (Ev.step ef (Ev_bind b3 (Ev.congr (fun k => if_pos rfl) (Ev_bind l3 (Ev.congr (fun k => if_pos rfl) (Ev_all_k fun k => by rw [t3, Option.bind_some])))))))))))))))), fun _ => ⟨rfl, rfl, rfl, rfl, of_decide_eq_true q6⟩⟩
end
end Go.Proofs.YtmfgajbkcnlkcaaGreat.K1
namespace Go.Proofs.YtmfgajbkcnlkcaaGreat.M1
open Go Go.RowKit Go.Proofs.YtmfgajbkcnlkcaaGreat.P Go.Proofs.YtmfgajbkcnlkcaaGreatW.PrintWords Go.Proofs.YtmfgajbkcnlkcaaGreatW.PrintLast Go.Proofs.YtmfgajbkcnlkcaaGreat.EV
theorem set_set_getD {α : Type} (l : List α) (i : Nat) (x z : α) (h : i < l.length) : (l.set i x).getD i z = x := by rw [getD_set, if_pos ⟨rfl, h⟩]
theorem set_set_eq {α : Type} (l : List α) (i : Nat) (x y : α) : (l.set i x).set i y = l.set i y := List.set_set ..
def mkAccount (c : Int) (n : Nat) : List S80 := (List.range n).map fun (j : Nat) => (⟨c + 2 * (j : Int), c + 2 * (j : Int) + 1⟩ : S80)
theorem mkAccount_len (c : Int) (n : Nat) : (mkAccount c n).length = n := by unfold mkAccount; simp
theorem mkAccount_at (c : Int) (n j : Nat) (h : j < n) : (mkAccount c n).getD j z80 = ⟨c + 2 * (j : Int), c + 2 * (j : Int) + 1⟩ := by
  unfold mkAccount
  rw [List.getD_eq_getElem?_getD, List.getElem?_map, List.getElem?_range h]
  rfl
theorem rdM_Account (l : List S80) (i : Nat) : rd_T80 l (i : Int) = l.getD i z80 := by unfold rd_T80; rw [Int.toNat_natCast]
theorem mark_Account (l : List S80) (c : Int) (h0 : 0 ≤ c) (h1 : c ≤ 1000000000000) (hl : l.length ≤ 1048577) : Ev (fun k => laws_markAccountS.f k l c) (c + 2 * (l.length : Int), mkAccount c l.length) := by
  unfold laws_markAccountS.f
  have h := Ev_goes (fun k (s : List S80 × Int) i => laws_markAccountS.l0 k s.1 s.2 i) l.length (fun _ _ => (c + 2 * (l.length : Int), mkAccount c l.length)) (fun i s => s.1.length = l.length ∧ s.2 = c + 2 * (i : Int) ∧ ∀ j, j < i → s.1.getD j z80 = ⟨c + 2 * (j : Int), c + 2 * (j : Int) + 1⟩)
    (fun s hs => Ev_one fun k => by
      obtain ⟨s1, s2, s3⟩ := hs
      simp only [laws_markAccountS.l0]
      rw [if_neg (by omega), s2]
      congr 2
      refine ext_getD z80 (by rw [mkAccount_len, s1]) fun i hi => ?_
      rw [s3 i (by omega), mkAccount_at _ _ _ (by omega)])
    (fun i s hi hs => by
      obtain ⟨s1, s2, s3⟩ := hs
      obtain ⟨l1, x⟩ := s
      dsimp only at s1 s2 s3
      refine .inr ⟨(l1.set i (⟨c + 2 * (i : Int), c + 2 * (i : Int) + 1⟩ : S80), c + 2 * ((i + 1 : Nat) : Int)), ⟨by rw [List.length_set]; exact s1, rfl, fun j hj => ?_⟩, rfl, fun k => ?_⟩
      · rw [getD_set]
        by_cases e : i = j
        · subst e
          rw [if_pos ⟨rfl, by omega⟩]
        · rw [if_neg (fun g => e g.1)]
          exact s3 j (by omega)
      · show laws_markAccountS.l0 (k + 1) l1 x (i : Int) = _
        simp only [laws_markAccountS.l0]
        rw [if_pos (by omega), if_pos (by omega), w_succ hi (by omega)]
        simp only [Option.bind_some, rdM_Account, Int.toNat_natCast, set_set_eq, set_set_getD l1 i _ z80 (show i < l1.length by omega)]
        subst s2
        have w0 : wrap64 (c + 2 * (i : Int) + 1) = c + 2 * (i : Int) + 1 := by unfold wrap64; omega
        have w1 : wrap64 (c + 2 * (i : Int) + 1 + 1) = c + 2 * (i : Int) + 2 := by unfold wrap64; omega
        simp only [w0, w1]
        have e2 : c + 2 * ((i + 1 : Nat) : Int) = c + 2 * (i : Int) + 2 := by omega
        rw [e2]) l.length 0 (l, c) (by omega) (by omega) ⟨rfl, by omega, fun j hj => by omega⟩
  exact h
theorem held_Account (n : Nat) (c : Int) (h0 : 0 ≤ c) (h1 : c ≤ 1000000000000) (hl : n ≤ 1048577) : Ev (fun k => laws_heldAccountS.f k (mkAccount c n) c) (c + 2 * (n : Int)) := by
  unfold laws_heldAccountS.f
  have h := Ev_goes (fun k (s : Int) i => laws_heldAccountS.l0 k (mkAccount c n) s i) n (fun _ _ => c + 2 * (n : Int)) (fun i s => s = c + 2 * (i : Int))
    (fun s hs => Ev_one fun k => by
      simp only [laws_heldAccountS.l0]
      rw [if_neg (by rw [mkAccount_len]; omega), hs])
    (fun i s hi hs => by
      refine .inr ⟨c + 2 * ((i + 1 : Nat) : Int), rfl, rfl, fun k => ?_⟩
      show laws_heldAccountS.l0 (k + 1) (mkAccount c n) s (i : Int) = _
      subst hs
      simp only [laws_heldAccountS.l0]
      rw [if_pos (by rw [mkAccount_len]; omega), if_pos (by omega), w_succ hi (by omega)]
      simp only [rdM_Account, mkAccount_at c n i hi]
      have w0 : wrap64 (c + 2 * (i : Int) + 1) = c + 2 * (i : Int) + 1 := by unfold wrap64; omega
      have w1 : wrap64 (c + 2 * (i : Int) + 1 + 1) = c + 2 * (i : Int) + 2 := by unfold wrap64; omega
      simp only [w0, w1]
      have e2 : c + 2 * ((i + 1 : Nat) : Int) = c + 2 * (i : Int) + 2 := by omega
      rw [if_pos trivial, if_pos trivial, e2]) n 0 c (by omega) (by omega) (by omega)
  exact h
def mkInstr (c : Int) (n : Nat) : List S84 := (List.range n).map fun (j : Nat) => (⟨c + 2 * (j : Int), c + 2 * (j : Int) + 1⟩ : S84)
theorem mkInstr_len (c : Int) (n : Nat) : (mkInstr c n).length = n := by unfold mkInstr; simp
theorem mkInstr_at (c : Int) (n j : Nat) (h : j < n) : (mkInstr c n).getD j z84 = ⟨c + 2 * (j : Int), c + 2 * (j : Int) + 1⟩ := by
  unfold mkInstr
  rw [List.getD_eq_getElem?_getD, List.getElem?_map, List.getElem?_range h]
  rfl
theorem rdM_Instr (l : List S84) (i : Nat) : rd_T84 l (i : Int) = l.getD i z84 := by unfold rd_T84; rw [Int.toNat_natCast]
theorem mark_Instr (l : List S84) (c : Int) (h0 : 0 ≤ c) (h1 : c ≤ 1000000000000) (hl : l.length ≤ 1048577) : Ev (fun k => laws_markInstrS.f k l c) (c + 2 * (l.length : Int), mkInstr c l.length) := by
  unfold laws_markInstrS.f
  have h := Ev_goes (fun k (s : List S84 × Int) i => laws_markInstrS.l0 k s.1 s.2 i) l.length (fun _ _ => (c + 2 * (l.length : Int), mkInstr c l.length)) (fun i s => s.1.length = l.length ∧ s.2 = c + 2 * (i : Int) ∧ ∀ j, j < i → s.1.getD j z84 = ⟨c + 2 * (j : Int), c + 2 * (j : Int) + 1⟩)
    (fun s hs => Ev_one fun k => by
      obtain ⟨s1, s2, s3⟩ := hs
      simp only [laws_markInstrS.l0]
      rw [if_neg (by omega), s2]
      congr 2
      refine ext_getD z84 (by rw [mkInstr_len, s1]) fun i hi => ?_
      rw [s3 i (by omega), mkInstr_at _ _ _ (by omega)])
    (fun i s hi hs => by
      obtain ⟨s1, s2, s3⟩ := hs
      obtain ⟨l1, x⟩ := s
      dsimp only at s1 s2 s3
      refine .inr ⟨(l1.set i (⟨c + 2 * (i : Int), c + 2 * (i : Int) + 1⟩ : S84), c + 2 * ((i + 1 : Nat) : Int)), ⟨by rw [List.length_set]; exact s1, rfl, fun j hj => ?_⟩, rfl, fun k => ?_⟩
      · rw [getD_set]
        by_cases e : i = j
        · subst e
          rw [if_pos ⟨rfl, by omega⟩]
        · rw [if_neg (fun g => e g.1)]
          exact s3 j (by omega)
      · show laws_markInstrS.l0 (k + 1) l1 x (i : Int) = _
        simp only [laws_markInstrS.l0]
        rw [if_pos (by omega), if_pos (by omega), w_succ hi (by omega)]
        simp only [Option.bind_some, rdM_Instr, Int.toNat_natCast, set_set_eq, set_set_getD l1 i _ z84 (show i < l1.length by omega)]
        subst s2
        have w0 : wrap64 (c + 2 * (i : Int) + 1) = c + 2 * (i : Int) + 1 := by unfold wrap64; omega
        have w1 : wrap64 (c + 2 * (i : Int) + 1 + 1) = c + 2 * (i : Int) + 2 := by unfold wrap64; omega
        simp only [w0, w1]
        have e2 : c + 2 * ((i + 1 : Nat) : Int) = c + 2 * (i : Int) + 2 := by omega
        rw [e2]) l.length 0 (l, c) (by omega) (by omega) ⟨rfl, by omega, fun j hj => by omega⟩
  exact h
theorem held_Instr (n : Nat) (c : Int) (h0 : 0 ≤ c) (h1 : c ≤ 1000000000000) (hl : n ≤ 1048577) : Ev (fun k => laws_heldInstrS.f k (mkInstr c n) c) (c + 2 * (n : Int)) := by
  unfold laws_heldInstrS.f
  have h := Ev_goes (fun k (s : Int) i => laws_heldInstrS.l0 k (mkInstr c n) s i) n (fun _ _ => c + 2 * (n : Int)) (fun i s => s = c + 2 * (i : Int))
    (fun s hs => Ev_one fun k => by
      simp only [laws_heldInstrS.l0]
      rw [if_neg (by rw [mkInstr_len]; omega), hs])
    (fun i s hi hs => by
      refine .inr ⟨c + 2 * ((i + 1 : Nat) : Int), rfl, rfl, fun k => ?_⟩
      show laws_heldInstrS.l0 (k + 1) (mkInstr c n) s (i : Int) = _
      subst hs
      simp only [laws_heldInstrS.l0]
      rw [if_pos (by rw [mkInstr_len]; omega), if_pos (by omega), w_succ hi (by omega)]
      simp only [rdM_Instr, mkInstr_at c n i hi]
      have w0 : wrap64 (c + 2 * (i : Int) + 1) = c + 2 * (i : Int) + 1 := by unfold wrap64; omega
      have w1 : wrap64 (c + 2 * (i : Int) + 1 + 1) = c + 2 * (i : Int) + 2 := by unfold wrap64; omega
      simp only [w0, w1]
      have e2 : c + 2 * ((i + 1 : Nat) : Int) = c + 2 * (i : Int) + 2 := by omega
      rw [if_pos trivial, if_pos trivial, e2]) n 0 c (by omega) (by omega) (by omega)
  exact h
def mkBal (c : Int) (n : Nat) : List S106 := (List.range n).map fun (j : Nat) => (⟨c + 3 * (j : Int), c + 3 * (j : Int) + 1, c + 3 * (j : Int) + 2⟩ : S106)
theorem mkBal_len (c : Int) (n : Nat) : (mkBal c n).length = n := by unfold mkBal; simp
theorem mkBal_at (c : Int) (n j : Nat) (h : j < n) : (mkBal c n).getD j z106 = ⟨c + 3 * (j : Int), c + 3 * (j : Int) + 1, c + 3 * (j : Int) + 2⟩ := by
  unfold mkBal
  rw [List.getD_eq_getElem?_getD, List.getElem?_map, List.getElem?_range h]
  rfl
theorem rdM_Bal (l : List S106) (i : Nat) : rd_T106 l (i : Int) = l.getD i z106 := by unfold rd_T106; rw [Int.toNat_natCast]
theorem mark_Bal (l : List S106) (c : Int) (h0 : 0 ≤ c) (h1 : c ≤ 1000000000000) (hl : l.length ≤ 1048577) : Ev (fun k => laws_markBalS.f k l c) (c + 3 * (l.length : Int), mkBal c l.length) := by
  unfold laws_markBalS.f
  have h := Ev_goes (fun k (s : List S106 × Int) i => laws_markBalS.l0 k s.1 s.2 i) l.length (fun _ _ => (c + 3 * (l.length : Int), mkBal c l.length)) (fun i s => s.1.length = l.length ∧ s.2 = c + 3 * (i : Int) ∧ ∀ j, j < i → s.1.getD j z106 = ⟨c + 3 * (j : Int), c + 3 * (j : Int) + 1, c + 3 * (j : Int) + 2⟩)
    (fun s hs => Ev_one fun k => by
      obtain ⟨s1, s2, s3⟩ := hs
      simp only [laws_markBalS.l0]
      rw [if_neg (by omega), s2]
      congr 2
      refine ext_getD z106 (by rw [mkBal_len, s1]) fun i hi => ?_
      rw [s3 i (by omega), mkBal_at _ _ _ (by omega)])
    (fun i s hi hs => by
      obtain ⟨s1, s2, s3⟩ := hs
      obtain ⟨l1, x⟩ := s
      dsimp only at s1 s2 s3
      refine .inr ⟨(l1.set i (⟨c + 3 * (i : Int), c + 3 * (i : Int) + 1, c + 3 * (i : Int) + 2⟩ : S106), c + 3 * ((i + 1 : Nat) : Int)), ⟨by rw [List.length_set]; exact s1, rfl, fun j hj => ?_⟩, rfl, fun k => ?_⟩
      · rw [getD_set]
        by_cases e : i = j
        · subst e
          rw [if_pos ⟨rfl, by omega⟩]
        · rw [if_neg (fun g => e g.1)]
          exact s3 j (by omega)
      · show laws_markBalS.l0 (k + 1) l1 x (i : Int) = _
        simp only [laws_markBalS.l0]
        rw [if_pos (by omega), if_pos (by omega), w_succ hi (by omega)]
        simp only [Option.bind_some, rdM_Bal, Int.toNat_natCast, set_set_eq, set_set_getD l1 i _ z106 (show i < l1.length by omega)]
        subst s2
        have w0 : wrap64 (c + 3 * (i : Int) + 1) = c + 3 * (i : Int) + 1 := by unfold wrap64; omega
        have w1 : wrap64 (c + 3 * (i : Int) + 1 + 1) = c + 3 * (i : Int) + 2 := by unfold wrap64; omega
        have w2 : wrap64 (c + 3 * (i : Int) + 2 + 1) = c + 3 * (i : Int) + 3 := by unfold wrap64; omega
        simp only [w0, w1, w2]
        have e2 : c + 3 * ((i + 1 : Nat) : Int) = c + 3 * (i : Int) + 3 := by omega
        rw [e2]) l.length 0 (l, c) (by omega) (by omega) ⟨rfl, by omega, fun j hj => by omega⟩
  exact h
theorem held_Bal (n : Nat) (c : Int) (h0 : 0 ≤ c) (h1 : c ≤ 1000000000000) (hl : n ≤ 1048577) : Ev (fun k => laws_heldBalS.f k (mkBal c n) c) (c + 3 * (n : Int)) := by
  unfold laws_heldBalS.f
  have h := Ev_goes (fun k (s : Int) i => laws_heldBalS.l0 k (mkBal c n) s i) n (fun _ _ => c + 3 * (n : Int)) (fun i s => s = c + 3 * (i : Int))
    (fun s hs => Ev_one fun k => by
      simp only [laws_heldBalS.l0]
      rw [if_neg (by rw [mkBal_len]; omega), hs])
    (fun i s hi hs => by
      refine .inr ⟨c + 3 * ((i + 1 : Nat) : Int), rfl, rfl, fun k => ?_⟩
      show laws_heldBalS.l0 (k + 1) (mkBal c n) s (i : Int) = _
      subst hs
      simp only [laws_heldBalS.l0]
      rw [if_pos (by rw [mkBal_len]; omega), if_pos (by omega), w_succ hi (by omega)]
      simp only [rdM_Bal, mkBal_at c n i hi]
      have w0 : wrap64 (c + 3 * (i : Int) + 1) = c + 3 * (i : Int) + 1 := by unfold wrap64; omega
      have w1 : wrap64 (c + 3 * (i : Int) + 1 + 1) = c + 3 * (i : Int) + 2 := by unfold wrap64; omega
      have w2 : wrap64 (c + 3 * (i : Int) + 2 + 1) = c + 3 * (i : Int) + 3 := by unfold wrap64; omega
      simp only [w0, w1, w2]
      have e2 : c + 3 * ((i + 1 : Nat) : Int) = c + 3 * (i : Int) + 3 := by omega
      rw [if_pos trivial, if_pos trivial, if_pos trivial, e2]) n 0 c (by omega) (by omega) (by omega)
  exact h
def mkLot (c : Int) (n : Nat) : List S110 := (List.range n).map fun (j : Nat) => (⟨c + 5 * (j : Int), c + 5 * (j : Int) + 1, c + 5 * (j : Int) + 2, c + 5 * (j : Int) + 3, c + 5 * (j : Int) + 4⟩ : S110)
theorem mkLot_len (c : Int) (n : Nat) : (mkLot c n).length = n := by unfold mkLot; simp
theorem mkLot_at (c : Int) (n j : Nat) (h : j < n) : (mkLot c n).getD j z110 = ⟨c + 5 * (j : Int), c + 5 * (j : Int) + 1, c + 5 * (j : Int) + 2, c + 5 * (j : Int) + 3, c + 5 * (j : Int) + 4⟩ := by
  unfold mkLot
  rw [List.getD_eq_getElem?_getD, List.getElem?_map, List.getElem?_range h]
  rfl
theorem rdM_Lot (l : List S110) (i : Nat) : rd_T110 l (i : Int) = l.getD i z110 := by unfold rd_T110; rw [Int.toNat_natCast]
theorem mark_Lot (l : List S110) (c : Int) (h0 : 0 ≤ c) (h1 : c ≤ 1000000000000) (hl : l.length ≤ 1048577) : Ev (fun k => laws_markLotS.f k l c) (c + 5 * (l.length : Int), mkLot c l.length) := by
  unfold laws_markLotS.f
  have h := Ev_goes (fun k (s : List S110 × Int) i => laws_markLotS.l0 k s.1 s.2 i) l.length (fun _ _ => (c + 5 * (l.length : Int), mkLot c l.length)) (fun i s => s.1.length = l.length ∧ s.2 = c + 5 * (i : Int) ∧ ∀ j, j < i → s.1.getD j z110 = ⟨c + 5 * (j : Int), c + 5 * (j : Int) + 1, c + 5 * (j : Int) + 2, c + 5 * (j : Int) + 3, c + 5 * (j : Int) + 4⟩)
    (fun s hs => Ev_one fun k => by
      obtain ⟨s1, s2, s3⟩ := hs
      simp only [laws_markLotS.l0]
      rw [if_neg (by omega), s2]
      congr 2
      refine ext_getD z110 (by rw [mkLot_len, s1]) fun i hi => ?_
      rw [s3 i (by omega), mkLot_at _ _ _ (by omega)])
    (fun i s hi hs => by
      obtain ⟨s1, s2, s3⟩ := hs
      obtain ⟨l1, x⟩ := s
      dsimp only at s1 s2 s3
      refine .inr ⟨(l1.set i (⟨c + 5 * (i : Int), c + 5 * (i : Int) + 1, c + 5 * (i : Int) + 2, c + 5 * (i : Int) + 3, c + 5 * (i : Int) + 4⟩ : S110), c + 5 * ((i + 1 : Nat) : Int)), ⟨by rw [List.length_set]; exact s1, rfl, fun j hj => ?_⟩, rfl, fun k => ?_⟩
      · rw [getD_set]
        by_cases e : i = j
        · subst e
          rw [if_pos ⟨rfl, by omega⟩]
        · rw [if_neg (fun g => e g.1)]
          exact s3 j (by omega)
      · show laws_markLotS.l0 (k + 1) l1 x (i : Int) = _
        simp only [laws_markLotS.l0]
        rw [if_pos (by omega), if_pos (by omega), w_succ hi (by omega)]
        simp only [Option.bind_some, rdM_Lot, Int.toNat_natCast, set_set_eq, set_set_getD l1 i _ z110 (show i < l1.length by omega)]
        subst s2
        have w0 : wrap64 (c + 5 * (i : Int) + 1) = c + 5 * (i : Int) + 1 := by unfold wrap64; omega
        have w1 : wrap64 (c + 5 * (i : Int) + 1 + 1) = c + 5 * (i : Int) + 2 := by unfold wrap64; omega
        have w2 : wrap64 (c + 5 * (i : Int) + 2 + 1) = c + 5 * (i : Int) + 3 := by unfold wrap64; omega
        have w3 : wrap64 (c + 5 * (i : Int) + 3 + 1) = c + 5 * (i : Int) + 4 := by unfold wrap64; omega
        have w4 : wrap64 (c + 5 * (i : Int) + 4 + 1) = c + 5 * (i : Int) + 5 := by unfold wrap64; omega
        simp only [w0, w1, w2, w3, w4]
        have e2 : c + 5 * ((i + 1 : Nat) : Int) = c + 5 * (i : Int) + 5 := by omega
        rw [e2]) l.length 0 (l, c) (by omega) (by omega) ⟨rfl, by omega, fun j hj => by omega⟩
  exact h
theorem held_Lot (n : Nat) (c : Int) (h0 : 0 ≤ c) (h1 : c ≤ 1000000000000) (hl : n ≤ 1048577) : Ev (fun k => laws_heldLotS.f k (mkLot c n) c) (c + 5 * (n : Int)) := by
  unfold laws_heldLotS.f
  have h := Ev_goes (fun k (s : Int) i => laws_heldLotS.l0 k (mkLot c n) s i) n (fun _ _ => c + 5 * (n : Int)) (fun i s => s = c + 5 * (i : Int))
    (fun s hs => Ev_one fun k => by
      simp only [laws_heldLotS.l0]
      rw [if_neg (by rw [mkLot_len]; omega), hs])
    (fun i s hi hs => by
      refine .inr ⟨c + 5 * ((i + 1 : Nat) : Int), rfl, rfl, fun k => ?_⟩
      show laws_heldLotS.l0 (k + 1) (mkLot c n) s (i : Int) = _
      subst hs
      simp only [laws_heldLotS.l0]
      rw [if_pos (by rw [mkLot_len]; omega), if_pos (by omega), w_succ hi (by omega)]
      simp only [rdM_Lot, mkLot_at c n i hi]
      have w0 : wrap64 (c + 5 * (i : Int) + 1) = c + 5 * (i : Int) + 1 := by unfold wrap64; omega
      have w1 : wrap64 (c + 5 * (i : Int) + 1 + 1) = c + 5 * (i : Int) + 2 := by unfold wrap64; omega
      have w2 : wrap64 (c + 5 * (i : Int) + 2 + 1) = c + 5 * (i : Int) + 3 := by unfold wrap64; omega
      have w3 : wrap64 (c + 5 * (i : Int) + 3 + 1) = c + 5 * (i : Int) + 4 := by unfold wrap64; omega
      have w4 : wrap64 (c + 5 * (i : Int) + 4 + 1) = c + 5 * (i : Int) + 5 := by unfold wrap64; omega
      simp only [w0, w1, w2, w3, w4]
      have e2 : c + 5 * ((i + 1 : Nat) : Int) = c + 5 * (i : Int) + 5 := by omega
      rw [if_pos trivial, if_pos trivial, if_pos trivial, if_pos trivial, if_pos trivial, e2]) n 0 c (by omega) (by omega) (by omega)
  exact h
def mkTrade (c : Int) (n : Nat) : List S60 := (List.range n).map fun (j : Nat) => (⟨c + 8 * (j : Int), c + 8 * (j : Int) + 1, c + 8 * (j : Int) + 2, c + 8 * (j : Int) + 3, c + 8 * (j : Int) + 4, c + 8 * (j : Int) + 5, c + 8 * (j : Int) + 6, c + 8 * (j : Int) + 7⟩ : S60)
theorem mkTrade_len (c : Int) (n : Nat) : (mkTrade c n).length = n := by unfold mkTrade; simp
theorem mkTrade_at (c : Int) (n j : Nat) (h : j < n) : (mkTrade c n).getD j z60 = ⟨c + 8 * (j : Int), c + 8 * (j : Int) + 1, c + 8 * (j : Int) + 2, c + 8 * (j : Int) + 3, c + 8 * (j : Int) + 4, c + 8 * (j : Int) + 5, c + 8 * (j : Int) + 6, c + 8 * (j : Int) + 7⟩ := by
  unfold mkTrade
  rw [List.getD_eq_getElem?_getD, List.getElem?_map, List.getElem?_range h]
  rfl
theorem rdM_Trade (l : List S60) (i : Nat) : rd_T60 l (i : Int) = l.getD i z60 := by unfold rd_T60; rw [Int.toNat_natCast]
theorem mark_Trade (l : List S60) (c : Int) (h0 : 0 ≤ c) (h1 : c ≤ 1000000000000) (hl : l.length ≤ 1048577) : Ev (fun k => laws_markTradeS.f k l c) (c + 8 * (l.length : Int), mkTrade c l.length) := by
  unfold laws_markTradeS.f
  have h := Ev_goes (fun k (s : List S60 × Int) i => laws_markTradeS.l0 k s.1 s.2 i) l.length (fun _ _ => (c + 8 * (l.length : Int), mkTrade c l.length)) (fun i s => s.1.length = l.length ∧ s.2 = c + 8 * (i : Int) ∧ ∀ j, j < i → s.1.getD j z60 = ⟨c + 8 * (j : Int), c + 8 * (j : Int) + 1, c + 8 * (j : Int) + 2, c + 8 * (j : Int) + 3, c + 8 * (j : Int) + 4, c + 8 * (j : Int) + 5, c + 8 * (j : Int) + 6, c + 8 * (j : Int) + 7⟩)
    (fun s hs => Ev_one fun k => by
      obtain ⟨s1, s2, s3⟩ := hs
      simp only [laws_markTradeS.l0]
      rw [if_neg (by omega), s2]
      congr 2
      refine ext_getD z60 (by rw [mkTrade_len, s1]) fun i hi => ?_
      rw [s3 i (by omega), mkTrade_at _ _ _ (by omega)])
    (fun i s hi hs => by
      obtain ⟨s1, s2, s3⟩ := hs
      obtain ⟨l1, x⟩ := s
      dsimp only at s1 s2 s3
      refine .inr ⟨(l1.set i (⟨c + 8 * (i : Int), c + 8 * (i : Int) + 1, c + 8 * (i : Int) + 2, c + 8 * (i : Int) + 3, c + 8 * (i : Int) + 4, c + 8 * (i : Int) + 5, c + 8 * (i : Int) + 6, c + 8 * (i : Int) + 7⟩ : S60), c + 8 * ((i + 1 : Nat) : Int)), ⟨by rw [List.length_set]; exact s1, rfl, fun j hj => ?_⟩, rfl, fun k => ?_⟩
      · rw [getD_set]
        by_cases e : i = j
        · subst e
          rw [if_pos ⟨rfl, by omega⟩]
        · rw [if_neg (fun g => e g.1)]
          exact s3 j (by omega)
      · show laws_markTradeS.l0 (k + 1) l1 x (i : Int) = _
        simp only [laws_markTradeS.l0]
        rw [if_pos (by omega), if_pos (by omega), w_succ hi (by omega)]
        simp only [Option.bind_some, rdM_Trade, Int.toNat_natCast, set_set_eq, set_set_getD l1 i _ z60 (show i < l1.length by omega)]
        subst s2
        have w0 : wrap64 (c + 8 * (i : Int) + 1) = c + 8 * (i : Int) + 1 := by unfold wrap64; omega
        have w1 : wrap64 (c + 8 * (i : Int) + 1 + 1) = c + 8 * (i : Int) + 2 := by unfold wrap64; omega
        have w2 : wrap64 (c + 8 * (i : Int) + 2 + 1) = c + 8 * (i : Int) + 3 := by unfold wrap64; omega
        have w3 : wrap64 (c + 8 * (i : Int) + 3 + 1) = c + 8 * (i : Int) + 4 := by unfold wrap64; omega
        have w4 : wrap64 (c + 8 * (i : Int) + 4 + 1) = c + 8 * (i : Int) + 5 := by unfold wrap64; omega
        have w5 : wrap64 (c + 8 * (i : Int) + 5 + 1) = c + 8 * (i : Int) + 6 := by unfold wrap64; omega
        have w6 : wrap64 (c + 8 * (i : Int) + 6 + 1) = c + 8 * (i : Int) + 7 := by unfold wrap64; omega
        have w7 : wrap64 (c + 8 * (i : Int) + 7 + 1) = c + 8 * (i : Int) + 8 := by unfold wrap64; omega
        simp only [w0, w1, w2, w3, w4, w5, w6, w7]
        have e2 : c + 8 * ((i + 1 : Nat) : Int) = c + 8 * (i : Int) + 8 := by omega
        rw [e2]) l.length 0 (l, c) (by omega) (by omega) ⟨rfl, by omega, fun j hj => by omega⟩
  exact h
theorem held_Trade (n : Nat) (c : Int) (h0 : 0 ≤ c) (h1 : c ≤ 1000000000000) (hl : n ≤ 1048577) : Ev (fun k => laws_heldTradeS.f k (mkTrade c n) c) (c + 8 * (n : Int)) := by
  unfold laws_heldTradeS.f
  have h := Ev_goes (fun k (s : Int) i => laws_heldTradeS.l0 k (mkTrade c n) s i) n (fun _ _ => c + 8 * (n : Int)) (fun i s => s = c + 8 * (i : Int))
    (fun s hs => Ev_one fun k => by
      simp only [laws_heldTradeS.l0]
      rw [if_neg (by rw [mkTrade_len]; omega), hs])
    (fun i s hi hs => by
      refine .inr ⟨c + 8 * ((i + 1 : Nat) : Int), rfl, rfl, fun k => ?_⟩
      show laws_heldTradeS.l0 (k + 1) (mkTrade c n) s (i : Int) = _
      subst hs
      simp only [laws_heldTradeS.l0]
      rw [if_pos (by rw [mkTrade_len]; omega), if_pos (by omega), w_succ hi (by omega)]
      simp only [rdM_Trade, mkTrade_at c n i hi]
      have w0 : wrap64 (c + 8 * (i : Int) + 1) = c + 8 * (i : Int) + 1 := by unfold wrap64; omega
      have w1 : wrap64 (c + 8 * (i : Int) + 1 + 1) = c + 8 * (i : Int) + 2 := by unfold wrap64; omega
      have w2 : wrap64 (c + 8 * (i : Int) + 2 + 1) = c + 8 * (i : Int) + 3 := by unfold wrap64; omega
      have w3 : wrap64 (c + 8 * (i : Int) + 3 + 1) = c + 8 * (i : Int) + 4 := by unfold wrap64; omega
      have w4 : wrap64 (c + 8 * (i : Int) + 4 + 1) = c + 8 * (i : Int) + 5 := by unfold wrap64; omega
      have w5 : wrap64 (c + 8 * (i : Int) + 5 + 1) = c + 8 * (i : Int) + 6 := by unfold wrap64; omega
      have w6 : wrap64 (c + 8 * (i : Int) + 6 + 1) = c + 8 * (i : Int) + 7 := by unfold wrap64; omega
      have w7 : wrap64 (c + 8 * (i : Int) + 7 + 1) = c + 8 * (i : Int) + 8 := by unfold wrap64; omega
      simp only [w0, w1, w2, w3, w4, w5, w6, w7]
      have e2 : c + 8 * ((i + 1 : Nat) : Int) = c + 8 * (i : Int) + 8 := by omega
      rw [if_pos trivial, if_pos trivial, if_pos trivial, if_pos trivial, if_pos trivial, if_pos trivial, if_pos trivial, if_pos trivial, e2]) n 0 c (by omega) (by omega) (by omega)
  exact h
end Go.Proofs.YtmfgajbkcnlkcaaGreat.M1
namespace Go.Proofs.YtmfgajbkcnlkcaaGreat.BK
open Go Go.RowKit Go.Proofs.YtmfgajbkcnlkcaaGreat.P Go.Proofs.YtmfgajbkcnlkcaaGreatW.PrintWords Go.Proofs.YtmfgajbkcnlkcaaGreatW.PrintLast Go.Proofs.YtmfgajbkcnlkcaaGreat.EV Go.Proofs.YtmfgajbkcnlkcaaGreat.M1
theorem mark_Books (A : List S80) (I : List S84) (B : List S106) (L : List S110) (T : List S60) (d : Int) (mA : A.length ≤ 1048577) (mI : I.length ≤ 1048577) (mB : B.length ≤ 1048577) (mL : L.length ≤ 1048577) (mT : T.length ≤ 1048577) :
    ∃ r : Int × List S80 × List S84 × List S106 × List S110 × List S60, 0 ≤ r.1 ∧ Ev (fun k => laws_markBooks.f k A I B L T d 1) r ∧ Ev (fun k => laws_heldBooks.f k r.2.1 r.2.2.1 r.2.2.2.1 r.2.2.2.2.1 r.2.2.2.2.2 d 1) r.1 := by
  unfold laws_markBooks.f laws_heldBooks.f
  refine ⟨(1 + 2 * (A.length : Int) + 2 * (I.length : Int) + 3 * (B.length : Int) + 5 * (L.length : Int) + 8 * (T.length : Int), mkAccount 1 A.length, mkInstr (1 + 2 * (A.length : Int)) I.length, mkBal (1 + 2 * (A.length : Int) + 2 * (I.length : Int)) B.length, mkLot (1 + 2 * (A.length : Int) + 2 * (I.length : Int) + 3 * (B.length : Int)) L.length, mkTrade (1 + 2 * (A.length : Int) + 2 * (I.length : Int) + 3 * (B.length : Int) + 5 * (L.length : Int)) T.length), by dsimp only; omega, ?_, ?_⟩
  · exact Ev_bind (mark_Account A 1 (by omega) (by omega) mA) (Ev_bind (mark_Instr I _ (by omega) (by omega) mI) (Ev_bind (mark_Bal B _ (by omega) (by omega) mB) (Ev_bind (mark_Lot L _ (by omega) (by omega) mL) (Ev_bind (mark_Trade T _ (by omega) (by omega) mT) (Ev_all_k fun _ => rfl)))))
  · exact Ev_bind (held_Account A.length 1 (by omega) (by omega) mA) (Ev.congr (fun k => if_neg (by omega)) (Ev_bind (held_Instr I.length _ (by omega) (by omega) mI) (Ev.congr (fun k => if_neg (by omega)) (Ev_bind (held_Bal B.length _ (by omega) (by omega) mB) (Ev.congr (fun k => if_neg (by omega)) (Ev_bind (held_Lot L.length _ (by omega) (by omega) mL) (Ev.congr (fun k => if_neg (by omega)) (Ev_bind (held_Trade T.length _ (by omega) (by omega) mT) (Ev_all_k fun k => if_neg (by omega))))))))))
end Go.Proofs.YtmfgajbkcnlkcaaGreat.BK
namespace Go.Proofs.YtmfgajbkcnlkcaaGreat.BC
open Go Go.RowKit Go.Proofs.YtmfgajbkcnlkcaaGreat.P Go.Proofs.YtmfgajbkcnlkcaaGreatW.PrintWords Go.Proofs.YtmfgajbkcnlkcaaGreatW.PrintLast Go.Proofs.YtmfgajbkcnlkcaaGreat.EV
abbrev LA := List S80
abbrev LI := List S84
abbrev LB := List S106
abbrev LL := List S110
abbrev LT := List S60
theorem copy_s (A : LA) (I : LI) (B : LB) (L : LL) (T : LT) (d : Int) (mA : A.length ≤ 1048576) (mI : I.length ≤ 1048576) (mB : B.length ≤ 1048576) (mL : L.length ≤ 1048576) (mT : T.length ≤ 1048576) : spec_l6Copy.f A I B L T d = some (A, I, B, L, T, d) := by
  unfold spec_l6Copy.f
  simp only [Option.bind_some, List.length_nil, Nat.zero_add, List.nil_append]
  rw [if_pos (by omega), if_pos (by omega), if_pos (by omega), if_pos (by omega), if_pos (by omega)]
theorem copy_i (A : LA) (I : LI) (B : LB) (L : LL) (T : LT) (d : Int) (mA : A.length ≤ 1048576) (mI : I.length ≤ 1048576) (mB : B.length ≤ 1048576) (mL : L.length ≤ 1048576) (mT : T.length ≤ 1048576) : impl_cloneBooks.f A I B L T d = some (A, I, B, L, T, d) := by
  unfold impl_cloneBooks.f impl_Account_97.f impl_Instr_98.f impl_Bal_99.f impl_Lot_100.f impl_Trade.f
  simp only [Option.bind_some, List.length_nil, Nat.zero_add, List.nil_append]
  rw [if_pos (by omega), Option.bind_some, if_pos (by omega), Option.bind_some, if_pos (by omega), Option.bind_some, if_pos (by omega), Option.bind_some, if_pos (by omega), Option.bind_some]
def Short (r : LA × LI × LB × LL × LT × Int) : Prop := r.1.length ≤ 1048577 ∧ r.2.1.length ≤ 1048577 ∧ r.2.2.1.length ≤ 1048577 ∧ r.2.2.2.1.length ≤ 1048577 ∧ r.2.2.2.2.1.length ≤ 1048577
end Go.Proofs.YtmfgajbkcnlkcaaGreat.BC
