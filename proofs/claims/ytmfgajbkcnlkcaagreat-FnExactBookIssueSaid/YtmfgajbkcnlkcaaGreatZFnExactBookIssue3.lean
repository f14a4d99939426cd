/- What the law FnExactBookIssue leans on, cut out of this repo's own texts by a program of this repo: plain functions, the walks that tie the Go calls to them, the law over lists and numbers, and the row. -/
import Derived.Test.YtmfgajbkcnlkcaaGreatZFnExactBookIssue2
namespace Go.Proofs.YtmfgajbkcnlkcaaGreat.P
end Go.Proofs.YtmfgajbkcnlkcaaGreat.P
namespace Go.Proofs.YtmfgajbkcnlkcaaGreat.AI
end Go.Proofs.YtmfgajbkcnlkcaaGreat.AI
namespace Go.Proofs.YtmfgajbkcnlkcaaGreat.AI
open Go Go.RowKit Go.Proofs.YtmfgajbkcnlkcaaGreatW.PrintWords Go.Proofs.YtmfgajbkcnlkcaaGreat.P
set_option linter.unusedVariables false
set_option linter.all false
set_option maxRecDepth 100000
set_option maxHeartbeats 4000000
noncomputable section
def o28 (l0_0 : List S80) (l0_1 : List S84) (l0_2 : List S106) (l0_3 : List S110) (l0_4 : List S60) (r : Bool) : Out Rw := ⟨[.c (.sc (.b r))], [.rows 0 (.e80 l0_0), .rows 0 (.e84 l0_1), .rows 0 (.e106 l0_2), .rows 0 (.e110 l0_3), .rows 0 (.e60 l0_4)]⟩
def Q28 : Mean Rw := fun k a h Z K => match a, h with
  | [.w (.ag [.rw 0, .rw 1, .rw 2, .rw 3, .rw 4, .sc (.i .i64 a0_5)])], [.rows 0 (.e80 l0_0), .rows 0 (.e84 l0_1), .rows 0 (.e106 l0_2), .rows 0 (.e110 l0_3), .rows 0 (.e60 l0_4)] => (spec_BooksOk.f k l0_0 l0_1 l0_2 l0_3 l0_4 a0_5).bind fun r => K (o28 l0_0 l0_1 l0_2 l0_3 l0_4 r)
  | _, _ => none
def q28 : Cal Rw := ⟨28, false, Q28⟩
def O28 : List (Cal Rw) := [q76, q77, q78, q79, q80, q56, q81, q82, q57, q62]
def C28_0 : Nat → St Rw → Option (Out Rw) := fun k st => match st with
  | ⟨91, 5, 6, [(1, .pt 5 0), (48, .w (.c (.sc (.b x48))))], [(0, .rows 0 (.e80 l0_0)), (1, .rows 0 (.e84 l0_1)), (2, .rows 0 (.e106 l0_2)), (3, .rows 0 (.e110 l0_3)), (4, .rows 0 (.e60 l0_4)), (5, .box 36 [.rw 0, .rw 1, .rw 2, .rw 3, .rw 4, .sc (.i .i64 b5_5)])]⟩ => (spec_BooksOk.j0 k x48 l0_0 l0_1 l0_2 l0_3 l0_4 b5_5).bind fun r => some (o28 l0_0 l0_1 l0_2 l0_3 l0_4 r)
  | _ => none
def C28_1 : Nat → St Rw → Option (Out Rw) := fun k st => match st with
  | ⟨91, 5, 6, [(1, .pt 5 0), (3, .w (.c (.sc (.i .i64 x3))))], [(0, .rows 0 (.e80 l0_0)), (1, .rows 0 (.e84 l0_1)), (2, .rows 0 (.e106 l0_2)), (3, .rows 0 (.e110 l0_3)), (4, .rows 0 (.e60 l0_4)), (5, .box 36 [.rw 0, .rw 1, .rw 2, .rw 3, .rw 4, .sc (.i .i64 b5_5)])]⟩ => (spec_BooksOk.l0 k x3 l0_0 l0_1 l0_2 l0_3 l0_4 b5_5).bind fun r => some (o28 l0_0 l0_1 l0_2 l0_3 l0_4 r)
  | _ => none
def K28 : List (Cut Rw) := [⟨[true, false, true], [1, 48], C28_0⟩, ⟨[false, true, false, true, true], [1, 3], C28_1⟩]
theorem h28_0 : HH Tryz.prog O28 K28 Tryz.f28 [true, false, true] C28_0 := fun k st out h => by
  unfold C28_0 at h; split at h
  · rename_i x48 l0_0 l0_1 l0_2 l0_3 l0_4 b5_5
    exact Lo.of (b := (if x48 = true then (some (o28 l0_0 l0_1 l0_2 l0_3 l0_4 false)) else ((spec_BooksOk.l0 k 0 l0_0 l0_1 l0_2 l0_3 l0_4 b5_5).bind fun r => some (o28 l0_0 l0_1 l0_2 l0_3 l0_4 r)))) (by kernel_rfl) (by rw [spec_BooksOk.j0]; exact lo_) _ h
  · cases h
theorem h28_1 : HH Tryz.prog O28 K28 Tryz.f28 [false, true, false, true, true] C28_1 := fun k st out h => by
  unfold C28_1 at h; split at h
  · rename_i x3 l0_0 l0_1 l0_2 l0_3 l0_4 b5_5
    exact Lo.of (b := (if x3 < (l0_4.length : Int) then (if 0 ≤ x3 then (if x3 < (l0_4.length : Int) then ((spec_AccountKind.f k l0_0 (rd_T60 l0_4 x3).f1).bind fun r8 => (if r8 = 1 then ((spec_AccountKind.f k l0_0 (rd_T60 l0_4 x3).f2).bind fun r9 => (if r9 = 1 then ((spec_InstrKind.f k l0_1 (rd_T60 l0_4 x3).f3).bind fun r10 => (if r10 = 2 then ((spec_InstrKind.f k l0_1 (rd_T60 l0_4 x3).f5).bind fun r11 => (if r11 = 1 then ((spec_BooksOk.l0 k (RowKit.wrap64 (x3 + 1)) l0_0 l0_1 l0_2 l0_3 l0_4 b5_5).bind fun r => some (o28 l0_0 l0_1 l0_2 l0_3 l0_4 r)) else (some (o28 l0_0 l0_1 l0_2 l0_3 l0_4 false)))) else (some (o28 l0_0 l0_1 l0_2 l0_3 l0_4 false)))) else (some (o28 l0_0 l0_1 l0_2 l0_3 l0_4 false)))) else (some (o28 l0_0 l0_1 l0_2 l0_3 l0_4 false)))) else none) else none) else (some (o28 l0_0 l0_1 l0_2 l0_3 l0_4 true)))) (by kernel_rfl) (by rw [spec_BooksOk.l0]; exact lo_) _ h
  · cases h
theorem d28 : Sound Tryz.prog q28 := fn_d (O := O28) (cs := K28) (cons_ d76 (cons_ d77 (cons_ d78 (cons_ d79 (cons_ d80 (cons_ d56 (cons_ d81 (cons_ d82 (cons_ d57 (cons_ d62 nil_)))))))))) mixed Tryz.func28 (cons_ (fun st => by show C28_0 0 st = none; unfold C28_0; split <;> rfl) (cons_ (fun st => by show C28_1 0 st = none; unfold C28_1; split <;> rfl) nil_)) (cons_ h28_0 (cons_ h28_1 nil_)) fun k a h Z K z e => by
  unfold Q28 at e; split at e
  · rename_i a0_5 l0_0 l0_1 l0_2 l0_3 l0_4
    exact ent e (Lo.of (b := ((spec_AccountsOk.f k l0_0).bind fun r7 => (if r7 = true then ((spec_InstrsOk.f k l0_1).bind fun r8 => (if r8 = true then ((spec_BalsOk.f k l0_2).bind fun r9 => (if r9 = true then ((spec_LotsOk.f k l0_3).bind fun r10 => (if r10 = true then ((spec_TradesOk.f k l0_4).bind fun r11 => (if r11 = true then ((spec_l1In.f a0_5 0 1000000000).bind fun r12 => (if r12 = true then ((spec_l6Bals.f k l0_0 l0_1 l0_2 l0_3 l0_4 a0_5).bind fun r13 => (if r13 = true then ((spec_l6Lots.f k l0_0 l0_1 l0_2 l0_3 l0_4 a0_5).bind fun r14 => ((spec_BooksOk.j0 k (!decide (r14 = true)) l0_0 l0_1 l0_2 l0_3 l0_4 a0_5).bind fun r => some (o28 l0_0 l0_1 l0_2 l0_3 l0_4 r))) else ((spec_BooksOk.j0 k true l0_0 l0_1 l0_2 l0_3 l0_4 a0_5).bind fun r => some (o28 l0_0 l0_1 l0_2 l0_3 l0_4 r)))) else ((spec_BooksOk.j0 k true l0_0 l0_1 l0_2 l0_3 l0_4 a0_5).bind fun r => some (o28 l0_0 l0_1 l0_2 l0_3 l0_4 r)))) else ((spec_BooksOk.j0 k true l0_0 l0_1 l0_2 l0_3 l0_4 a0_5).bind fun r => some (o28 l0_0 l0_1 l0_2 l0_3 l0_4 r)))) else ((spec_BooksOk.j0 k true l0_0 l0_1 l0_2 l0_3 l0_4 a0_5).bind fun r => some (o28 l0_0 l0_1 l0_2 l0_3 l0_4 r)))) else ((spec_BooksOk.j0 k true l0_0 l0_1 l0_2 l0_3 l0_4 a0_5).bind fun r => some (o28 l0_0 l0_1 l0_2 l0_3 l0_4 r)))) else ((spec_BooksOk.j0 k true l0_0 l0_1 l0_2 l0_3 l0_4 a0_5).bind fun r => some (o28 l0_0 l0_1 l0_2 l0_3 l0_4 r)))) else ((spec_BooksOk.j0 k true l0_0 l0_1 l0_2 l0_3 l0_4 a0_5).bind fun r => some (o28 l0_0 l0_1 l0_2 l0_3 l0_4 r))))) (by kernel_rfl) (by unfold spec_BooksOk.f; exact lo_))
  · cases e
def o30 (l0_0 : List S80) (l0_1 : List S84) (l0_2 : List S106) (l0_3 : List S110) (l0_4 : List S60) (r : (List (S80)) × (List (S84)) × (List (S106)) × (List (S110)) × (List (S60)) × Int) : Out Rw := ⟨[.ag [.rw 5, .rw 6, .rw 7, .rw 8, .rw 9, .sc (.i .i64 r.2.2.2.2.2)]], [.rows 0 (.e80 l0_0), .rows 0 (.e84 l0_1), .rows 0 (.e106 l0_2), .rows 0 (.e110 l0_3), .rows 0 (.e60 l0_4), .rows 2 (.e80 r.1), .rows 2 (.e84 r.2.1), .rows 2 (.e106 r.2.2.1), .rows 2 (.e110 r.2.2.2.1), .rows 2 (.e60 r.2.2.2.2.1)]⟩
def Q30 : Mean Rw := fun k a h Z K => match a, h with
  | [.w (.ag [.rw 0, .rw 1, .rw 2, .rw 3, .rw 4, .sc (.i .i64 a0_5)])], [.rows 0 (.e80 l0_0), .rows 0 (.e84 l0_1), .rows 0 (.e106 l0_2), .rows 0 (.e110 l0_3), .rows 0 (.e60 l0_4)] => (spec_l6Copy.f l0_0 l0_1 l0_2 l0_3 l0_4 a0_5).bind fun r => K (o30 l0_0 l0_1 l0_2 l0_3 l0_4 r)
  | _, _ => none
def q30 : Cal Rw := ⟨30, false, Q30⟩
def O30 : List (Cal Rw) := []
def K30 : List (Cut Rw) := []
theorem d30 : Sound Tryz.prog q30 := fn_d (O := O30) (cs := K30) nil_ mixed Tryz.func30 nil_ nil_ fun k a h Z K z e => by
  unfold Q30 at e; split at e
  · rename_i a0_5 l0_0 l0_1 l0_2 l0_3 l0_4
    exact ent e (Lo.of (b := (if [].length + l0_0.length < 8796093022209 then (if [].length + l0_1.length < 8796093022209 then (if [].length + l0_2.length < 5864062014806 then (if [].length + l0_3.length < 3518437208884 then (if [].length + l0_4.length < 2199023255553 then (some (o30 l0_0 l0_1 l0_2 l0_3 l0_4 ([] ++ l0_0, [] ++ l0_1, [] ++ l0_2, [] ++ l0_3, [] ++ l0_4, a0_5))) else none) else none) else none) else none) else none)) (by kernel_rfl) (by unfold spec_l6Copy.f; exact lo_))
  · cases e
def o68 (r : (List (S93))) : Out Rw := ⟨[.c (.rw 0)], [.rows 2 (.e93 r)]⟩
def Q68 : Mean Rw := fun k a h Z K => match a, h with
  | [.w (.c (.sc (.i .i64 a0))), .w (.c (.sc (.i .i64 a1))), .w (.c (.sc (.i .i64 a2))), .w (.c (.sc (.i .i64 a3)))], [] => (spec_l6Pair.f a0 a1 a2 a3).bind fun r => K (o68 r)
  | _, _ => none
def q68 : Cal Rw := ⟨68, false, Q68⟩
def O68 : List (Cal Rw) := []
def K68 : List (Cut Rw) := []
theorem d68 : Sound Tryz.prog q68 := fn_d (O := O68) (cs := K68) nil_ mixed Tryz.func68 nil_ nil_ fun k a h Z K z e => by
  unfold Q68 at e; split at e
  · rename_i a0 a1 a2 a3
    exact ent e (Lo.of (b := (some (o68 ([(⟨a0, a2, RowKit.wrap64 (0 - a3)⟩ : S93)] ++ [(⟨a1, a2, a3⟩ : S93)])))) (by kernel_rfl) (by unfold spec_l6Pair.f; exact lon_))
  · cases e
def o113 (l0_0 : List S80) (l0_1 : List S84) (l0_2 : List S106) (l0_3 : List S110) (l0_4 : List S60) (r : List Int) : Out Rw := ⟨[.c (.rw 5)], [.rows 0 (.e80 l0_0), .rows 0 (.e84 l0_1), .rows 0 (.e106 l0_2), .rows 0 (.e110 l0_3), .rows 0 (.e60 l0_4), .rows 2 (.eI r)]⟩
def Q113 : Mean Rw := fun k a h Z K => match a, h with
  | [.w (.ag [.rw 0, .rw 1, .rw 2, .rw 3, .rw 4, .sc (.i .i64 a0_5)])], [.rows 0 (.e80 l0_0), .rows 0 (.e84 l0_1), .rows 0 (.e106 l0_2), .rows 0 (.e110 l0_3), .rows 0 (.e60 l0_4)] => (spec_l6Short.f k l0_0 l0_1 l0_2 l0_3 l0_4 a0_5).bind fun r => K (o113 l0_0 l0_1 l0_2 l0_3 l0_4 r)
  | _, _ => none
def q113 : Cal Rw := ⟨113, false, Q113⟩
def O113 : List (Cal Rw) := []
def C113_0 : Nat → St Rw → Option (Out Rw) := fun k st => match st with
  | ⟨30, 5, 7, [(1, .pt 5 0), (3, .w (.c (.rw 6))), (4, .w (.c (.sc (.i .i64 x4))))], [(0, .rows 0 (.e80 l0_0)), (1, .rows 0 (.e84 l0_1)), (2, .rows 0 (.e106 l0_2)), (3, .rows 0 (.e110 l0_3)), (4, .rows 0 (.e60 l0_4)), (5, .box 36 [.rw 0, .rw 1, .rw 2, .rw 3, .rw 4, .sc (.i .i64 b5_5)]), (6, .rows 2 (.eI y6))]⟩ => (spec_l6Short.l0 k y6 x4 l0_0 l0_1 l0_2 l0_3 l0_4 b5_5).bind fun r => some (o113 l0_0 l0_1 l0_2 l0_3 l0_4 r)
  | _ => none
def K113 : List (Cut Rw) := [⟨[false, true, false, true, true], [1, 3, 4], C113_0⟩]
theorem h113_0 : HH Tryz.prog O113 K113 Tryz.f113 [false, true, false, true, true] C113_0 := fun k st out h => by
  unfold C113_0 at h; split at h
  · rename_i x4 l0_0 l0_1 l0_2 l0_3 l0_4 b5_5 y6
    exact Lo.of (b := (if x4 < (l0_0.length : Int) then (if 0 ≤ x4 then (if x4 < (l0_0.length : Int) then (if (rd_T80 l0_0 x4).f1 = 1 then ((spec_l6Short.l0 k y6 (RowKit.wrap64 (x4 + 1)) l0_0 l0_1 l0_2 l0_3 l0_4 b5_5).bind fun r => some (o113 l0_0 l0_1 l0_2 l0_3 l0_4 r)) else (if 0 ≤ x4 then (if x4 < (l0_0.length : Int) then (if y6.length + 1 < 17592186044417 then ((spec_l6Short.l0 k (y6 ++ ([(rd_T80 l0_0 x4).f0])) (RowKit.wrap64 (x4 + 1)) l0_0 l0_1 l0_2 l0_3 l0_4 b5_5).bind fun r => some (o113 l0_0 l0_1 l0_2 l0_3 l0_4 r)) else none) else none) else none)) else none) else none) else (some (o113 l0_0 l0_1 l0_2 l0_3 l0_4 y6)))) (by kernel_rfl) (by rw [spec_l6Short.l0]; exact lo_) _ h
  · cases h
theorem d113 : Sound Tryz.prog q113 := fn_d (O := O113) (cs := K113) nil_ mixed Tryz.func113 (cons_ (fun st => by show C113_0 0 st = none; unfold C113_0; split <;> rfl) nil_) (cons_ h113_0 nil_) fun k a h Z K z e => by
  unfold Q113 at e; split at e
  · rename_i a0_5 l0_0 l0_1 l0_2 l0_3 l0_4
    exact ent e (Lo.of (b := ((spec_l6Short.l0 k ([]) 0 l0_0 l0_1 l0_2 l0_3 l0_4 a0_5).bind fun r => some (o113 l0_0 l0_1 l0_2 l0_3 l0_4 r))) (by kernel_rfl) (by unfold spec_l6Short.f; exact lo_))
  · cases e
def o148 (l0 : List S93) (r : Bool) : Out Rw := ⟨[.c (.sc (.b r))], [.rows 0 (.e93 l0)]⟩
def Q148 : Mean Rw := fun k a h Z K => match a, h with
  | [.w (.c (.rw 0))], [.rows 0 (.e93 l0)] => (spec_l4LegsRight.f k l0).bind fun r => K (o148 l0 r)
  | _, _ => none
def q148 : Cal Rw := ⟨148, false, Q148⟩
def O148 : List (Cal Rw) := [q29, q122]
def C148_0 : Nat → St Rw → Option (Out Rw) := fun k st => match st with
  | ⟨38, 1, 1, [(0, .w (.c (.rw 0))), (3, .w (.c (.sc (.i .i64 x3))))], [(0, .rows 0 (.e93 l0))]⟩ => (spec_l4LegsRight.l0 k l0 x3).bind fun r => some (o148 l0 r)
  | _ => none
def K148 : List (Cut Rw) := [⟨[false, true, false, true, true], [0, 3], C148_0⟩]
theorem h148_0 : HH Tryz.prog O148 K148 Tryz.f148 [false, true, false, true, true] C148_0 := fun k st out h => by
  unfold C148_0 at h; split at h
  · rename_i x3 l0
    exact Lo.of (b := (if x3 < (l0.length : Int) then (if 0 ≤ x3 then (if x3 < (l0.length : Int) then ((spec_l3No.f (rd_T93 l0 x3).f0).bind fun r3 => (if r3 = true then (if 0 ≤ x3 then (if x3 < (l0.length : Int) then ((spec_l3No.f (rd_T93 l0 x3).f1).bind fun r4 => (if r4 = true then (if 0 ≤ x3 then (if x3 < (l0.length : Int) then ((spec_AmountOk.f (rd_T93 l0 x3).f2).bind fun r5 => (if r5 = true then ((spec_l4LegsRight.l0 k l0 (RowKit.wrap64 (x3 + 1))).bind fun r => some (o148 l0 r)) else (some (o148 l0 false)))) else none) else none) else (some (o148 l0 false)))) else none) else none) else (some (o148 l0 false)))) else none) else none) else (some (o148 l0 true)))) (by kernel_rfl) (by rw [spec_l4LegsRight.l0]; exact lo_) _ h
  · cases h
theorem d148 : Sound Tryz.prog q148 := fn_d (O := O148) (cs := K148) (cons_ d29 (cons_ d122 nil_)) mixed Tryz.func148 (cons_ (fun st => by show C148_0 0 st = none; unfold C148_0; split <;> rfl) nil_) (cons_ h148_0 nil_) fun k a h Z K z e => by
  unfold Q148 at e; split at e
  · rename_i l0
    exact ent e (Lo.of (b := (if (l0.length : Int) > 160 then (some (o148 l0 false)) else ((spec_l4LegsRight.l0 k l0 0).bind fun r => some (o148 l0 r)))) (by kernel_rfl) (by unfold spec_l4LegsRight.f; exact lo_))
  · cases e
def o149 (l0 : List S93) (r : Bool) : Out Rw := ⟨[.c (.sc (.b r))], [.rows 0 (.e93 l0)]⟩
def Q149 : Mean Rw := fun k a h Z K => match a, h with
  | [.w (.c (.rw 0))], [.rows 0 (.e93 l0)] => (spec_LegsOk.f k l0).bind fun r => K (o149 l0 r)
  | _, _ => none
def q149 : Cal Rw := ⟨149, false, Q149⟩
def O149 : List (Cal Rw) := [q148]
def C149_0 : Nat → St Rw → Option (Out Rw) := fun k st => match st with
  | ⟨41, 1, 1, [(0, .w (.c (.rw 0))), (3, .w (.c (.sc (.i .i64 x3))))], [(0, .rows 0 (.e93 l0))]⟩ => (spec_LegsOk.l0 k l0 x3).bind fun r => some (o149 l0 r)
  | _ => none
def C149_1 : Nat → St Rw → Option (Out Rw) := fun k st => match st with
  | ⟨41, 1, 1, [(0, .w (.c (.rw 0))), (3, .w (.c (.sc (.i .i64 x3)))), (4, .w (.c (.sc (.i .i64 x4)))), (5, .w (.c (.sc (.i .i64 x5))))], [(0, .rows 0 (.e93 l0))]⟩ => (spec_LegsOk.l1 k l0 x3 x4 x5).bind fun r => some (o149 l0 r)
  | _ => none
def K149 : List (Cut Rw) := [⟨[false, true, false, true, true], [0, 3], C149_0⟩, ⟨[false, true, false, true, false, false, true, false, false, true, false, true, true], [0, 3, 4, 5], C149_1⟩]
theorem h149_0 : HH Tryz.prog O149 K149 Tryz.f149 [false, true, false, true, true] C149_0 := fun k st out h => by
  unfold C149_0 at h; split at h
  · rename_i x3 l0
    exact Lo.of (b := (if x3 < (l0.length : Int) then ((spec_LegsOk.l1 k l0 x3 0 0).bind fun r => some (o149 l0 r)) else (some (o149 l0 true)))) (by kernel_rfl) (by rw [spec_LegsOk.l0]; exact lo_) _ h
  · cases h
theorem h149_1 : HH Tryz.prog O149 K149 Tryz.f149 [false, true, false, true, false, false, true, false, false, true, false, true, true] C149_1 := fun k st out h => by
  unfold C149_1 at h; split at h
  · rename_i x3 x4 x5 l0
    exact Lo.of (b := (if x5 < (l0.length : Int) then (if 0 ≤ x5 then (if x5 < (l0.length : Int) then (if 0 ≤ x3 then (if x3 < (l0.length : Int) then (if (rd_T93 l0 x5).f1 = (rd_T93 l0 x3).f1 then (if 0 ≤ x5 then (if x5 < (l0.length : Int) then ((spec_LegsOk.l1 k l0 x3 (RowKit.wrap64 (x4 + (rd_T93 l0 x5).f2)) (RowKit.wrap64 (x5 + 1))).bind fun r => some (o149 l0 r)) else none) else none) else ((spec_LegsOk.l1 k l0 x3 x4 (RowKit.wrap64 (x5 + 1))).bind fun r => some (o149 l0 r))) else none) else none) else none) else none) else (if x4 = 0 then ((spec_LegsOk.l0 k l0 (RowKit.wrap64 (x3 + 1))).bind fun r => some (o149 l0 r)) else (some (o149 l0 false))))) (by kernel_rfl) (by rw [spec_LegsOk.l1]; exact lo_) _ h
  · cases h
theorem d149 : Sound Tryz.prog q149 := fn_d (O := O149) (cs := K149) (cons_ d148 nil_) mixed Tryz.func149 (cons_ (fun st => by show C149_0 0 st = none; unfold C149_0; split <;> rfl) (cons_ (fun st => by show C149_1 0 st = none; unfold C149_1; split <;> rfl) nil_)) (cons_ h149_0 (cons_ h149_1 nil_)) fun k a h Z K z e => by
  unfold Q149 at e; split at e
  · rename_i l0
    exact ent e (Lo.of (b := ((spec_l4LegsRight.f k l0).bind fun r2 => (if r2 = true then ((spec_LegsOk.l0 k l0 0).bind fun r => some (o149 l0 r)) else (some (o149 l0 false))))) (by kernel_rfl) (by unfold spec_LegsOk.f; exact lo_))
  · cases e
def o150 (r : Int × Bool) : Out Rw := ⟨[.c (.sc (.i .i64 r.1)), .c (.sc (.b r.2))], []⟩
def Q150 : Mean Rw := fun k a h Z K => match a, h with
  | [.w (.c (.sc (.i .i64 a0))), .w (.c (.sc (.i .i64 a1)))], [] => (spec_AddIn.f a0 a1).bind fun r => K (o150 r)
  | _, _ => none
def q150 : Cal Rw := ⟨150, false, Q150⟩
def O150 : List (Cal Rw) := [q122, q167]
def K150 : List (Cut Rw) := []
theorem d150 : Sound Tryz.prog q150 := fn_d (O := O150) (cs := K150) (cons_ d122 (cons_ d167 nil_)) mixed Tryz.func150 nil_ nil_ fun k a h Z K z e => by
  unfold Q150 at e; split at e
  · rename_i a0 a1
    exact ent e (Lo.of (b := ((spec_AmountOk.f a0).bind fun r3 => (if r3 = true then ((spec_AmountOk.f a1).bind fun r4 => ((spec_l1Told.f (RowKit.wrap64 (a0 + a1)) r4).bind fun r5 => (some (o150 (r5.1, r5.2))))) else ((spec_l1Told.f (RowKit.wrap64 (a0 + a1)) false).bind fun r4 => (some (o150 (r4.1, r4.2))))))) (by kernel_rfl) (by unfold spec_AddIn.f; exact lo_))
  · cases e
def o151 (l0 : List S106) (r : (List (S106))) : Out Rw := ⟨[.c (.rw 1)], [.rows 0 (.e106 l0), .rows 2 (.e106 r)]⟩
def Q151 : Mean Rw := fun k a h Z K => match a, h with
  | [.w (.c (.rw 0)), .w (.c (.sc (.i .i64 a1))), .w (.c (.sc (.i .i64 a2))), .w (.c (.sc (.i .i64 a3)))], [.rows 0 (.e106 l0)] => (spec_l4Put.f k l0 a1 a2 a3).bind fun r => K (o151 l0 r)
  | _, _ => none
def q151 : Cal Rw := ⟨151, false, Q151⟩
def O151 : List (Cal Rw) := [q123]
def C151_0 : Nat → St Rw → Option (Out Rw) := fun k st => match st with
  | ⟨68, 1, 3, [(0, .w (.c (.rw 0))), (1, .w (.c (.sc (.i .i64 x1)))), (2, .w (.c (.sc (.i .i64 x2)))), (9, .w (.c (.rw 1))), (10, .w (.c (.sc (.b x10)))), (11, .pt 2 0), (12, .w (.c (.sc (.i .i64 x12))))], [(0, .rows 0 (.e106 l0)), (1, .rows 2 (.e106 y1)), (2, .box 106 [.sc (.i .i64 b2_0), .sc (.i .i64 b2_1), .sc (.i .i64 b2_2)])]⟩ => (spec_l4Put.l0 k l0 x1 x2 y1 x10 x12 b2_0 b2_1 b2_2).bind fun r => some (o151 l0 r)
  | _ => none
def C151_1 : Nat → St Rw → Option (Out Rw) := fun k st => match st with
  | ⟨68, 1, 4, [(0, .w (.c (.rw 0))), (1, .w (.c (.sc (.i .i64 x1)))), (2, .w (.c (.sc (.i .i64 x2)))), (9, .w (.c (.rw 1))), (10, .w (.c (.sc (.b x10)))), (11, .pt 2 0), (12, .w (.c (.sc (.i .i64 x12)))), (13, .pt 3 0), (42, .w (.c (.sc (.b x42))))], [(0, .rows 0 (.e106 l0)), (1, .rows 2 (.e106 y1)), (2, .box 106 [.sc (.i .i64 b2_0), .sc (.i .i64 b2_1), .sc (.i .i64 b2_2)]), (3, .box 106 [.sc (.i .i64 b3_0), .sc (.i .i64 b3_1), .sc (.i .i64 b3_2)])]⟩ => (spec_l4Put.j1 k l0 x1 x2 y1 x10 x12 x42 b2_0 b2_1 b2_2 b3_0 b3_1 b3_2).bind fun r => some (o151 l0 r)
  | _ => none
def K151 : List (Cut Rw) := [⟨[false, true, false, true, true, true, true], [0, 1, 2, 9, 10, 11, 12], C151_0⟩, ⟨[true, false, true, false, false, true, false, false, true, false, true, true, true, true], [0, 1, 2, 9, 10, 11, 12, 13, 42], C151_1⟩]
theorem h151_0 : HH Tryz.prog O151 K151 Tryz.f151 [false, true, false, true, true, true, true] C151_0 := fun k st out h => by
  unfold C151_0 at h; split at h
  · rename_i x1 x2 x10 x12 l0 y1 b2_0 b2_1 b2_2
    exact Lo.of (b := (if x12 < (l0.length : Int) then (if 0 ≤ x12 then (if x12 < (l0.length : Int) then (if x10 = true then ((spec_l4Put.j1 k l0 x1 x2 y1 x10 x12 false b2_0 b2_1 b2_2 ((rd_T106 l0 x12).f0) ((rd_T106 l0 x12).f1) ((rd_T106 l0 x12).f2)).bind fun r => some (o151 l0 r)) else ((spec_l4Before.f (rd_T106 l0 x12).f0 (rd_T106 l0 x12).f1 x1 x2).bind fun r10 => ((spec_l4Put.j1 k l0 x1 x2 y1 x10 x12 (!decide (r10 = true)) b2_0 b2_1 b2_2 ((rd_T106 l0 x12).f0) ((rd_T106 l0 x12).f1) ((rd_T106 l0 x12).f2)).bind fun r => some (o151 l0 r)))) else none) else none) else (if x10 = true then (some (o151 l0 y1)) else (if y1.length + 1 < 5864062014806 then (some (o151 l0 (y1 ++ ([(⟨b2_0, b2_1, b2_2⟩ : S106)])))) else none)))) (by kernel_rfl) (by rw [spec_l4Put.l0]; exact lo_) _ h
  · cases h
theorem h151_1 : HH Tryz.prog O151 K151 Tryz.f151 [true, false, true, false, false, true, false, false, true, false, true, true, true, true] C151_1 := fun k st out h => by
  unfold C151_1 at h; split at h
  · rename_i x1 x2 x10 x12 x42 l0 y1 b2_0 b2_1 b2_2 b3_0 b3_1 b3_2
    exact Lo.of (b := (if x42 = true then (if y1.length + 1 < 5864062014806 then (if b3_0 = x1 then (if b3_1 = x2 then ((spec_l4Put.l0 k l0 x1 x2 (y1 ++ ([(⟨b2_0, b2_1, b2_2⟩ : S106)])) true (RowKit.wrap64 (x12 + 1)) b2_0 b2_1 b2_2).bind fun r => some (o151 l0 r)) else (if (y1 ++ ([(⟨b2_0, b2_1, b2_2⟩ : S106)])).length + 1 < 5864062014806 then ((spec_l4Put.l0 k l0 x1 x2 (y1 ++ ([(⟨b2_0, b2_1, b2_2⟩ : S106)]) ++ ([(⟨b3_0, b3_1, b3_2⟩ : S106)])) true (RowKit.wrap64 (x12 + 1)) b2_0 b2_1 b2_2).bind fun r => some (o151 l0 r)) else none)) else (if (y1 ++ ([(⟨b2_0, b2_1, b2_2⟩ : S106)])).length + 1 < 5864062014806 then ((spec_l4Put.l0 k l0 x1 x2 (y1 ++ ([(⟨b2_0, b2_1, b2_2⟩ : S106)]) ++ ([(⟨b3_0, b3_1, b3_2⟩ : S106)])) true (RowKit.wrap64 (x12 + 1)) b2_0 b2_1 b2_2).bind fun r => some (o151 l0 r)) else none)) else none) else (if b3_0 = x1 then (if b3_1 = x2 then ((spec_l4Put.l0 k l0 x1 x2 y1 x10 (RowKit.wrap64 (x12 + 1)) b2_0 b2_1 b2_2).bind fun r => some (o151 l0 r)) else (if y1.length + 1 < 5864062014806 then ((spec_l4Put.l0 k l0 x1 x2 (y1 ++ ([(⟨b3_0, b3_1, b3_2⟩ : S106)])) x10 (RowKit.wrap64 (x12 + 1)) b2_0 b2_1 b2_2).bind fun r => some (o151 l0 r)) else none)) else (if y1.length + 1 < 5864062014806 then ((spec_l4Put.l0 k l0 x1 x2 (y1 ++ ([(⟨b3_0, b3_1, b3_2⟩ : S106)])) x10 (RowKit.wrap64 (x12 + 1)) b2_0 b2_1 b2_2).bind fun r => some (o151 l0 r)) else none)))) (by kernel_rfl) (by rw [spec_l4Put.j1]; exact lo_) _ h
  · cases h
theorem d151 : Sound Tryz.prog q151 := fn_d (O := O151) (cs := K151) (cons_ d123 nil_) mixed Tryz.func151 (cons_ (fun st => by show C151_0 0 st = none; unfold C151_0; split <;> rfl) (cons_ (fun st => by show C151_1 0 st = none; unfold C151_1; split <;> rfl) nil_)) (cons_ h151_0 (cons_ h151_1 nil_)) fun k a h Z K z e => by
  unfold Q151 at e; split at e
  · rename_i a1 a2 a3 l0
    exact ent e (Lo.of (b := ((spec_l4Put.l0 k l0 a1 a2 ([]) (decide (a3 = 0)) 0 a1 a2 a3).bind fun r => some (o151 l0 r))) (by kernel_rfl) (by unfold spec_l4Put.f; exact lo_))
  · cases e
def o152 (l0 : List Int) (r : Bool) : Out Rw := ⟨[.c (.sc (.b r))], [.rows 0 (.eI l0)]⟩
def Q152 : Mean Rw := fun k a h Z K => match a, h with
  | [.w (.c (.rw 0)), .w (.c (.sc (.i .i64 a1)))], [.rows 0 (.eI l0)] => (spec_l4Has.f k l0 a1).bind fun r => K (o152 l0 r)
  | _, _ => none
def q152 : Cal Rw := ⟨152, false, Q152⟩
def O152 : List (Cal Rw) := []
def C152_0 : Nat → St Rw → Option (Out Rw) := fun k st => match st with
  | ⟨18, 1, 1, [(0, .w (.c (.rw 0))), (1, .w (.c (.sc (.i .i64 x1)))), (5, .w (.c (.sc (.i .i64 x5))))], [(0, .rows 0 (.eI l0))]⟩ => (spec_l4Has.l0 k l0 x1 x5).bind fun r => some (o152 l0 r)
  | _ => none
def K152 : List (Cut Rw) := [⟨[false, true, false, true], [0, 1, 5], C152_0⟩]
theorem h152_0 : HH Tryz.prog O152 K152 Tryz.f152 [false, true, false, true] C152_0 := fun k st out h => by
  unfold C152_0 at h; split at h
  · rename_i x1 x5 l0
    exact Lo.of (b := (if x5 < (l0.length : Int) then (if 0 ≤ x5 then (if x5 < (l0.length : Int) then (if l0.getD x5.toNat 0 = x1 then (some (o152 l0 true)) else ((spec_l4Has.l0 k l0 x1 (RowKit.wrap64 (x5 + 1))).bind fun r => some (o152 l0 r))) else none) else none) else (some (o152 l0 false)))) (by kernel_rfl) (by rw [spec_l4Has.l0]; exact lo_) _ h
  · cases h
theorem d152 : Sound Tryz.prog q152 := fn_d (O := O152) (cs := K152) nil_ mixed Tryz.func152 (cons_ (fun st => by show C152_0 0 st = none; unfold C152_0; split <;> rfl) nil_) (cons_ h152_0 nil_) fun k a h Z K z e => by
  unfold Q152 at e; split at e
  · rename_i a1 l0
    exact ent e (Lo.of (b := ((spec_l4Has.l0 k l0 a1 0).bind fun r => some (o152 l0 r))) (by kernel_rfl) (by unfold spec_l4Has.f; exact lo_))
  · cases e
def o112 (l0 : List S106) (l1 : List S93) (l2 : List Int) (r : (List (S106)) × Int) : Out Rw := ⟨[.c (.rw 3), .c (.sc (.i .i64 r.2))], [.rows 0 (.e106 l0), .rows 0 (.e93 l1), .rows 0 (.eI l2), .rows 2 (.e106 r.1)]⟩
def Q112 : Mean Rw := fun k a h Z K => match a, h with
  | [.w (.c (.rw 0)), .w (.c (.rw 1)), .w (.c (.rw 2))], [.rows 0 (.e106 l0), .rows 0 (.e93 l1), .rows 0 (.eI l2)] => (spec_BalsPost.f k l0 l1 l2).bind fun r => K (o112 l0 l1 l2 r)
  | _, _ => none
def q112 : Cal Rw := ⟨112, false, Q112⟩
def O112 : List (Cal Rw) := [q78, q148, q149, q129, q150, q151, q152]
def C112_0 : Nat → St Rw → Option (Out Rw) := fun k st => match st with
  | ⟨120, 3, 3, [(0, .w (.c (.rw 0))), (1, .w (.c (.rw 1))), (2, .w (.c (.rw 2))), (26, .w (.c (.sc (.b x26))))], [(0, .rows 0 (.e106 l0)), (1, .rows 0 (.e93 l1)), (2, .rows 0 (.eI l2))]⟩ => (spec_BalsPost.j0 k l0 l1 l2 x26).bind fun r => some (o112 l0 l1 l2 r)
  | _ => none
def C112_1 : Nat → St Rw → Option (Out Rw) := fun k st => match st with
  | ⟨120, 3, 4, [(0, .w (.c (.rw 0))), (1, .w (.c (.rw 1))), (2, .w (.c (.rw 2))), (9, .w (.c (.rw 3))), (10, .w (.c (.sc (.i .i64 x10))))], [(0, .rows 0 (.e106 l0)), (1, .rows 0 (.e93 l1)), (2, .rows 0 (.eI l2)), (3, .rows 2 (.e106 y3))]⟩ => (spec_BalsPost.l0 k l0 l1 l2 y3 x10).bind fun r => some (o112 l0 l1 l2 r)
  | _ => none
def C112_2 : Nat → St Rw → Option (Out Rw) := fun k st => match st with
  | ⟨120, 3, 4, [(0, .w (.c (.rw 0))), (1, .w (.c (.rw 1))), (2, .w (.c (.rw 2))), (9, .w (.c (.rw 3))), (13, .w (.c (.sc (.i .i64 x13))))], [(0, .rows 0 (.e106 l0)), (1, .rows 0 (.e93 l1)), (2, .rows 0 (.eI l2)), (3, .rows 2 (.e106 y3))]⟩ => (spec_BalsPost.l1 k l0 l1 l2 y3 x13).bind fun r => some (o112 l0 l1 l2 r)
  | _ => none
def K112 : List (Cut Rw) := [⟨[true, false, true], [0, 1, 2, 26], C112_0⟩, ⟨[false, true, false, true, true, true, true, true], [0, 1, 2, 9, 10], C112_1⟩, ⟨[false, true, false, true, true, true, true, true, true], [0, 1, 2, 9, 13], C112_2⟩]
theorem h112_0 : HH Tryz.prog O112 K112 Tryz.f112 [true, false, true] C112_0 := fun k st out h => by
  unfold C112_0 at h; split at h
  · rename_i x26 l0 l1 l2
    exact Lo.of (b := (if x26 = true then (some (o112 l0 l1 l2 ([], 1))) else (if [].length + l0.length < 5864062014806 then ((spec_LegsOk.f k l1).bind fun r5 => (if r5 = true then ((spec_BalsPost.l0 k l0 l1 l2 ([] ++ l0) 0).bind fun r => some (o112 l0 l1 l2 r)) else (some (o112 l0 l1 l2 ([] ++ l0, 2))))) else none))) (by kernel_rfl) (by rw [spec_BalsPost.j0]; exact lo_) _ h
  · cases h
theorem h112_1 : HH Tryz.prog O112 K112 Tryz.f112 [false, true, false, true, true, true, true, true] C112_1 := fun k st out h => by
  unfold C112_1 at h; split at h
  · rename_i x10 l0 l1 l2 y3
    exact Lo.of (b := (if x10 < (l1.length : Int) then (if 0 ≤ x10 then (if x10 < (l1.length : Int) then (if 0 ≤ x10 then (if x10 < (l1.length : Int) then (if 0 ≤ x10 then (if x10 < (l1.length : Int) then ((spec_l4Of.f k y3 (rd_T93 l1 x10).f0 (rd_T93 l1 x10).f1).bind fun r6 => ((spec_AddIn.f r6 (rd_T93 l1 x10).f2).bind fun r7 => (if r7.2 = true then (if 0 ≤ x10 then (if x10 < (l1.length : Int) then (if 0 ≤ x10 then (if x10 < (l1.length : Int) then ((spec_l4Put.f k y3 (rd_T93 l1 x10).f0 (rd_T93 l1 x10).f1 r7.1).bind fun r8 => ((spec_BalsPost.l0 k l0 l1 l2 r8 (RowKit.wrap64 (x10 + 1))).bind fun r => some (o112 l0 l1 l2 r))) else none) else none) else none) else none) else (if [].length + l0.length < 5864062014806 then (some (o112 l0 l1 l2 ([] ++ l0, 4))) else none)))) else none) else none) else none) else none) else none) else none) else ((spec_BalsPost.l1 k l0 l1 l2 y3 0).bind fun r => some (o112 l0 l1 l2 r)))) (by kernel_rfl) (by rw [spec_BalsPost.l0]; exact lo_) _ h
  · cases h
theorem h112_2 : HH Tryz.prog O112 K112 Tryz.f112 [false, true, false, true, true, true, true, true, true] C112_2 := fun k st out h => by
  unfold C112_2 at h; split at h
  · rename_i x13 l0 l1 l2 y3
    exact Lo.of (b := (if x13 < (l1.length : Int) then (if 0 ≤ x13 then (if x13 < (l1.length : Int) then (if 0 ≤ x13 then (if x13 < (l1.length : Int) then ((spec_l4Of.f k y3 (rd_T93 l1 x13).f0 (rd_T93 l1 x13).f1).bind fun r6 => (if r6 < 0 then (if 0 ≤ x13 then (if x13 < (l1.length : Int) then ((spec_l4Has.f k l2 (rd_T93 l1 x13).f0).bind fun r7 => (if r7 = true then ((spec_BalsPost.l1 k l0 l1 l2 y3 (RowKit.wrap64 (x13 + 1))).bind fun r => some (o112 l0 l1 l2 r)) else (if [].length + l0.length < 5864062014806 then (some (o112 l0 l1 l2 ([] ++ l0, 3))) else none))) else none) else none) else ((spec_BalsPost.l1 k l0 l1 l2 y3 (RowKit.wrap64 (x13 + 1))).bind fun r => some (o112 l0 l1 l2 r)))) else none) else none) else none) else none) else (if (y3.length : Int) > 160 then (if [].length + l0.length < 5864062014806 then (some (o112 l0 l1 l2 ([] ++ l0, 5))) else none) else (some (o112 l0 l1 l2 (y3, 0)))))) (by kernel_rfl) (by rw [spec_BalsPost.l1]; exact lo_) _ h
  · cases h
theorem d112 : Sound Tryz.prog q112 := fn_d (O := O112) (cs := K112) (cons_ d78 (cons_ d148 (cons_ d149 (cons_ d129 (cons_ d150 (cons_ d151 (cons_ d152 nil_))))))) mixed Tryz.func112 (cons_ (fun st => by show C112_0 0 st = none; unfold C112_0; split <;> rfl) (cons_ (fun st => by show C112_1 0 st = none; unfold C112_1; split <;> rfl) (cons_ (fun st => by show C112_2 0 st = none; unfold C112_2; split <;> rfl) nil_))) (cons_ h112_0 (cons_ h112_1 (cons_ h112_2 nil_))) fun k a h Z K z e => by
  unfold Q112 at e; split at e
  · rename_i l0 l1 l2
    exact ent e (Lo.of (b := ((spec_BalsOk.f k l0).bind fun r4 => (if r4 = true then ((spec_l4LegsRight.f k l1).bind fun r5 => (if r5 = true then ((spec_BalsPost.j0 k l0 l1 l2 (decide ((l2.length : Int) > 20))).bind fun r => some (o112 l0 l1 l2 r)) else ((spec_BalsPost.j0 k l0 l1 l2 true).bind fun r => some (o112 l0 l1 l2 r)))) else ((spec_BalsPost.j0 k l0 l1 l2 true).bind fun r => some (o112 l0 l1 l2 r))))) (by kernel_rfl) (by unfold spec_BalsPost.f; exact lo_))
  · cases e
def W67 (k : Nat) (d : Int) (l0 : List S80) (l1 : List S84) (l2 : List S106) (l3 : List S110) (l4 : List S60) (l5 : List S93) (Z : Type) (K : Out Rw → Option Z) : Option Z := ((spec_l6Short.f k l0 l1 l2 l3 l4 d).bind fun r8 => ((spec_BalsPost.f k l2 l5 r8).bind fun r9 => (if r9.2 = 0 then (K ⟨[.ag [.rw 0, .rw 1, .rw 6, .rw 3, .rw 4, .sc (.i .i64 d)], .c (.sc (.i .i64 0))], [.rows 0 (.e80 l0), .rows 0 (.e84 l1), .rows 0 (.e106 l2), .rows 0 (.e110 l3), .rows 0 (.e60 l4), .rows 0 (.e93 l5), .rows 2 (.e106 r9.1)]⟩) else (if r9.2 = 3 then (K ⟨[.ag [.rw 0, .rw 1, .rw 2, .rw 3, .rw 4, .sc (.i .i64 d)], .c (.sc (.i .i64 5))], [.rows 0 (.e80 l0), .rows 0 (.e84 l1), .rows 0 (.e106 l2), .rows 0 (.e110 l3), .rows 0 (.e60 l4), .rows 0 (.e93 l5)]⟩) else (if r9.2 = 4 then (K ⟨[.ag [.rw 0, .rw 1, .rw 2, .rw 3, .rw 4, .sc (.i .i64 d)], .c (.sc (.i .i64 8))], [.rows 0 (.e80 l0), .rows 0 (.e84 l1), .rows 0 (.e106 l2), .rows 0 (.e110 l3), .rows 0 (.e60 l4), .rows 0 (.e93 l5)]⟩) else (K ⟨[.ag [.rw 0, .rw 1, .rw 2, .rw 3, .rw 4, .sc (.i .i64 d)], .c (.sc (.i .i64 7))], [.rows 0 (.e80 l0), .rows 0 (.e84 l1), .rows 0 (.e106 l2), .rows 0 (.e110 l3), .rows 0 (.e60 l4), .rows 0 (.e93 l5)]⟩))))))
def Q67 : Mean Rw := fun k a h Z K => match a, h with
  | [.w (.ag [.rw 0, .rw 1, .rw 2, .rw 3, .rw 4, .sc (.i .i64 d)]), .w (.c (.rw 5))], [.rows 0 (.e80 l0), .rows 0 (.e84 l1), .rows 0 (.e106 l2), .rows 0 (.e110 l3), .rows 0 (.e60 l4), .rows 0 (.e93 l5)] => W67 k d l0 l1 l2 l3 l4 l5 Z K
  | _, _ => none
def q67 : Cal Rw := ⟨67, false, Q67⟩
def O67 : List (Cal Rw) := [q113, q112]
theorem d67 : Sound Tryz.prog q67 := fn_d (O := O67) (cs := []) (cons_ d113 (cons_ d112 nil_)) mixed Tryz.func67 nil_ nil_ fun k a h Z K z e => by
  unfold Q67 at e; split at e
  · rename_i d l0 l1 l2 l3 l4 l5
    exact tk_ (x := W67 k d l0 l1 l2 l3 l4 l5 _ some) e (by kernel_rfl) (by unfold W67; exact tkw_)
  · cases e
def o153 (l0 : List S110) (l1 : List S110) (r : (List (S110))) : Out Rw := ⟨[.c (.rw 2)], [.rows 0 (.e110 l0), .rows 0 (.e110 l1), .rows 2 (.e110 r)]⟩
def Q153 : Mean Rw := fun k a h Z K => match a, h with
  | [.w (.c (.rw 0)), .w (.c (.rw 1))], [.rows 0 (.e110 l0), .rows 0 (.e110 l1)] => (spec_l5Merge.f k l0 l1).bind fun r => K (o153 l0 l1 r)
  | _, _ => none
def q153 : Cal Rw := ⟨153, false, Q153⟩
def O153 : List (Cal Rw) := [q125]
def C153_0 : Nat → St Rw → Option (Out Rw) := fun k st => match st with
  | ⟨59, 2, 3, [(0, .w (.c (.rw 0))), (1, .w (.c (.rw 1))), (5, .w (.c (.rw 2))), (6, .w (.c (.sc (.i .i64 x6)))), (7, .w (.c (.sc (.i .i64 x7))))], [(0, .rows 0 (.e110 l0)), (1, .rows 0 (.e110 l1)), (2, .rows 2 (.e110 y2))]⟩ => (spec_l5Merge.l0 k l0 l1 y2 x6 x7).bind fun r => some (o153 l0 l1 r)
  | _ => none
def C153_1 : Nat → St Rw → Option (Out Rw) := fun k st => match st with
  | ⟨59, 2, 3, [(0, .w (.c (.rw 0))), (1, .w (.c (.rw 1))), (5, .w (.c (.rw 2))), (6, .w (.c (.sc (.i .i64 x6)))), (7, .w (.c (.sc (.i .i64 x7)))), (18, .w (.c (.sc (.b x18))))], [(0, .rows 0 (.e110 l0)), (1, .rows 0 (.e110 l1)), (2, .rows 2 (.e110 y2))]⟩ => (spec_l5Merge.j1 k l0 l1 y2 x6 x7 x18).bind fun r => some (o153 l0 l1 r)
  | _ => none
def K153 : List (Cut Rw) := [⟨[false, false, true, true, true], [0, 1, 5, 6, 7], C153_0⟩, ⟨[true, false, false, false, false, true, true, true], [0, 1, 5, 6, 7, 18], C153_1⟩]
theorem h153_0 : HH Tryz.prog O153 K153 Tryz.f153 [false, false, true, true, true] C153_0 := fun k st out h => by
  unfold C153_0 at h; split at h
  · rename_i x6 x7 l0 l1 y2
    exact Lo.of (b := (if x6 < (l0.length : Int) then ((spec_l5Merge.j1 k l0 l1 y2 x6 x7 true).bind fun r => some (o153 l0 l1 r)) else ((spec_l5Merge.j1 k l0 l1 y2 x6 x7 (decide (x7 < (l1.length : Int)))).bind fun r => some (o153 l0 l1 r)))) (by kernel_rfl) (by rw [spec_l5Merge.l0]; exact lo_) _ h
  · cases h
theorem h153_1 : HH Tryz.prog O153 K153 Tryz.f153 [true, false, false, false, false, true, true, true] C153_1 := fun k st out h => by
  unfold C153_1 at h; split at h
  · rename_i x6 x7 x18 l0 l1 y2
    exact Lo.of (b := (if x18 = true then (if x7 = (l1.length : Int) then (if 0 ≤ x6 then (if x6 < (l0.length : Int) then (if y2.length + 1 < 3518437208884 then ((spec_l5Merge.l0 k l0 l1 (y2 ++ ([(⟨(rd_T110 l0 x6).f0, (rd_T110 l0 x6).f1, (rd_T110 l0 x6).f2, (rd_T110 l0 x6).f3, (rd_T110 l0 x6).f4⟩ : S110)])) (RowKit.wrap64 (x6 + 1)) x7).bind fun r => some (o153 l0 l1 r)) else none) else none) else none) else (if x6 < (l0.length : Int) then (if 0 ≤ x6 then (if x6 < (l0.length : Int) then (if 0 ≤ x7 then (if x7 < (l1.length : Int) then ((spec_l5Before.f (rd_T110 l0 x6).f0 (rd_T110 l0 x6).f1 (rd_T110 l0 x6).f2 (rd_T110 l0 x6).f3 (rd_T110 l0 x6).f4 (rd_T110 l1 x7).f0 (rd_T110 l1 x7).f1 (rd_T110 l1 x7).f2 (rd_T110 l1 x7).f3 (rd_T110 l1 x7).f4).bind fun r7 => (if r7 = true then (if 0 ≤ x6 then (if x6 < (l0.length : Int) then (if y2.length + 1 < 3518437208884 then ((spec_l5Merge.l0 k l0 l1 (y2 ++ ([(⟨(rd_T110 l0 x6).f0, (rd_T110 l0 x6).f1, (rd_T110 l0 x6).f2, (rd_T110 l0 x6).f3, (rd_T110 l0 x6).f4⟩ : S110)])) (RowKit.wrap64 (x6 + 1)) x7).bind fun r => some (o153 l0 l1 r)) else none) else none) else none) else (if 0 ≤ x7 then (if x7 < (l1.length : Int) then (if y2.length + 1 < 3518437208884 then ((spec_l5Merge.l0 k l0 l1 (y2 ++ ([(⟨(rd_T110 l1 x7).f0, (rd_T110 l1 x7).f1, (rd_T110 l1 x7).f2, (rd_T110 l1 x7).f3, (rd_T110 l1 x7).f4⟩ : S110)])) x6 (RowKit.wrap64 (x7 + 1))).bind fun r => some (o153 l0 l1 r)) else none) else none) else none))) else none) else none) else none) else none) else (if 0 ≤ x7 then (if x7 < (l1.length : Int) then (if y2.length + 1 < 3518437208884 then ((spec_l5Merge.l0 k l0 l1 (y2 ++ ([(⟨(rd_T110 l1 x7).f0, (rd_T110 l1 x7).f1, (rd_T110 l1 x7).f2, (rd_T110 l1 x7).f3, (rd_T110 l1 x7).f4⟩ : S110)])) x6 (RowKit.wrap64 (x7 + 1))).bind fun r => some (o153 l0 l1 r)) else none) else none) else none))) else (some (o153 l0 l1 y2)))) (by kernel_rfl) (by rw [spec_l5Merge.j1]; exact lo_) _ h
  · cases h
theorem d153 : Sound Tryz.prog q153 := fn_d (O := O153) (cs := K153) (cons_ d125 nil_) mixed Tryz.func153 (cons_ (fun st => by show C153_0 0 st = none; unfold C153_0; split <;> rfl) (cons_ (fun st => by show C153_1 0 st = none; unfold C153_1; split <;> rfl) nil_)) (cons_ h153_0 (cons_ h153_1 nil_)) fun k a h Z K z e => by
  unfold Q153 at e; split at e
  · rename_i l0 l1
    exact ent e (Lo.of (b := ((spec_l5Merge.l0 k l0 l1 ([]) 0 0).bind fun r => some (o153 l0 l1 r))) (by kernel_rfl) (by unfold spec_l5Merge.f; exact lo_))
  · cases e
def o114 (l0 : List S110) (r : (List (S110)) × Int) : Out Rw := ⟨[.c (.rw 1), .c (.sc (.i .i64 r.2))], [.rows 0 (.e110 l0), .rows 2 (.e110 r.1)]⟩
def Q114 : Mean Rw := fun k a h Z K => match a, h with
  | [.w (.c (.rw 0)), .w (.ag [.sc (.i .i64 a1_0), .sc (.i .i64 a1_1), .sc (.i .i64 a1_2), .sc (.i .i64 a1_3), .sc (.i .i64 a1_4)])], [.rows 0 (.e110 l0)] => (spec_LotOpen.f k l0 a1_0 a1_1 a1_2 a1_3 a1_4).bind fun r => K (o114 l0 r)
  | _, _ => none
def q114 : Cal Rw := ⟨114, false, Q114⟩
def O114 : List (Cal Rw) := [q79, q124, q153]
def C114_0 : Nat → St Rw → Option (Out Rw) := fun k st => match st with
  | ⟨27, 1, 2, [(0, .w (.c (.rw 0))), (3, .pt 1 0), (14, .w (.c (.sc (.b x14))))], [(0, .rows 0 (.e110 l0)), (1, .box 110 [.sc (.i .i64 b1_0), .sc (.i .i64 b1_1), .sc (.i .i64 b1_2), .sc (.i .i64 b1_3), .sc (.i .i64 b1_4)])]⟩ => (spec_LotOpen.j0 k l0 x14 b1_0 b1_1 b1_2 b1_3 b1_4).bind fun r => some (o114 l0 r)
  | _ => none
def K114 : List (Cut Rw) := [⟨[true, false, true], [0, 3, 14], C114_0⟩]
theorem h114_0 : HH Tryz.prog O114 K114 Tryz.f114 [true, false, true] C114_0 := fun k st out h => by
  unfold C114_0 at h; split at h
  · rename_i x14 l0 b1_0 b1_1 b1_2 b1_3 b1_4
    exact Lo.of (b := (if x14 = true then (some (o114 l0 ([], 1))) else ((spec_l5Merge.f k l0 ([(⟨b1_0, b1_1, b1_2, b1_3, b1_4⟩ : S110)])).bind fun r8 => ((spec_LotsOk.f k r8).bind fun r9 => (if r9 = true then (some (o114 l0 (r8, 0))) else (if [].length + l0.length < 3518437208884 then (some (o114 l0 ([] ++ l0, 3))) else none)))))) (by kernel_rfl) (by rw [spec_LotOpen.j0]; exact lo_) _ h
  · cases h
theorem d114 : Sound Tryz.prog q114 := fn_d (O := O114) (cs := K114) (cons_ d79 (cons_ d124 (cons_ d153 nil_))) mixed Tryz.func114 (cons_ (fun st => by show C114_0 0 st = none; unfold C114_0; split <;> rfl) nil_) (cons_ h114_0 nil_) fun k a h Z K z e => by
  unfold Q114 at e; split at e
  · rename_i a1_0 a1_1 a1_2 a1_3 a1_4 l0
    exact ent e (Lo.of (b := ((spec_LotsOk.f k l0).bind fun r7 => (if r7 = true then ((spec_l5Right.f a1_0 a1_1 a1_2 a1_3 a1_4).bind fun r8 => ((spec_LotOpen.j0 k l0 (!decide (r8 = true)) a1_0 a1_1 a1_2 a1_3 a1_4).bind fun r => some (o114 l0 r))) else ((spec_LotOpen.j0 k l0 true a1_0 a1_1 a1_2 a1_3 a1_4).bind fun r => some (o114 l0 r))))) (by kernel_rfl) (by unfold spec_LotOpen.f; exact lo_))
  · cases e
end
end Go.Proofs.YtmfgajbkcnlkcaaGreat.AI
namespace Go.Proofs.YtmfgajbkcnlkcaaGreat.AI
open Go Go.RowKit Go.Proofs.YtmfgajbkcnlkcaaGreatW.PrintWords Go.Proofs.YtmfgajbkcnlkcaaGreat.P
set_option linter.unusedVariables false
set_option linter.all false
set_option maxRecDepth 100000
set_option maxHeartbeats 4000000
noncomputable section
def W69 (k : Nat) (d : Int) (l0 : List S80) (l1 : List S84) (l2 : List S106) (l3 : List S110) (l4 : List S60) (a1 : Int) (a2 : Int) (a3 : Int) (a4 : Int) (Z : Type) (K : Out Rw → Option Z) : Option Z := (if d = 1000000000 then (K ⟨[.ag [.rw 0, .rw 1, .rw 2, .rw 3, .rw 4, .sc (.i .i64 d)], .c (.sc (.i .i64 7))], [.rows 0 (.e80 l0), .rows 0 (.e84 l1), .rows 0 (.e106 l2), .rows 0 (.e110 l3), .rows 0 (.e60 l4)]⟩) else ((spec_LotOpen.f k l3 a1 a2 (RowKit.wrap64 (d + 1)) a3 a4).bind fun r11 => (if r11.2 = 0 then (K ⟨[.ag [.rw 0, .rw 1, .rw 2, .rw 5, .rw 4, .sc (.i .i64 (RowKit.wrap64 (d + 1)))], .c (.sc (.i .i64 0))], [.rows 0 (.e80 l0), .rows 0 (.e84 l1), .rows 0 (.e106 l2), .rows 0 (.e110 l3), .rows 0 (.e60 l4), .rows 2 (.e110 r11.1)]⟩) else (K ⟨[.ag [.rw 0, .rw 1, .rw 2, .rw 3, .rw 4, .sc (.i .i64 d)], .c (.sc (.i .i64 7))], [.rows 0 (.e80 l0), .rows 0 (.e84 l1), .rows 0 (.e106 l2), .rows 0 (.e110 l3), .rows 0 (.e60 l4)]⟩))))
def Q69 : Mean Rw := fun k a h Z K => match a, h with
  | [.w (.ag [.rw 0, .rw 1, .rw 2, .rw 3, .rw 4, .sc (.i .i64 d)]), .w (.c (.sc (.i .i64 a1))), .w (.c (.sc (.i .i64 a2))), .w (.c (.sc (.i .i64 a3))), .w (.c (.sc (.i .i64 a4)))], [.rows 0 (.e80 l0), .rows 0 (.e84 l1), .rows 0 (.e106 l2), .rows 0 (.e110 l3), .rows 0 (.e60 l4)] => W69 k d l0 l1 l2 l3 l4 a1 a2 a3 a4 Z K
  | _, _ => none
def q69 : Cal Rw := ⟨69, false, Q69⟩
def O69 : List (Cal Rw) := [q114]
theorem d69 : Sound Tryz.prog q69 := fn_d (O := O69) (cs := []) (cons_ d114 nil_) mixed Tryz.func69 nil_ nil_ fun k a h Z K z e => by
  unfold Q69 at e; split at e
  · rename_i d a1 a2 a3 a4 l0 l1 l2 l3 l4
    exact tk_ (x := W69 k d l0 l1 l2 l3 l4 a1 a2 a3 a4 _ some) e (by kernel_rfl) (by unfold W69; exact tkw_)
  · cases e
def o19 (l0_0 : List S80) (l0_1 : List S84) (l0_2 : List S106) (l0_3 : List S110) (l0_4 : List S60) (r : (List (S80)) × (List (S84)) × (List (S106)) × (List (S110)) × (List (S60)) × Int × Int) : Out Rw := ⟨[.ag [.rw 5, .rw 6, .rw 7, .rw 8, .rw 9, .sc (.i .i64 r.2.2.2.2.2.1)], .c (.sc (.i .i64 r.2.2.2.2.2.2))], [.rows 0 (.e80 l0_0), .rows 0 (.e84 l0_1), .rows 0 (.e106 l0_2), .rows 0 (.e110 l0_3), .rows 0 (.e60 l0_4), .rows 2 (.e80 r.1), .rows 2 (.e84 r.2.1), .rows 2 (.e106 r.2.2.1), .rows 2 (.e110 r.2.2.2.1), .rows 2 (.e60 r.2.2.2.2.1)]⟩
def Q19 : Mean Rw := fun k a h Z K => match a, h with
  | [.w (.ag [.rw 0, .rw 1, .rw 2, .rw 3, .rw 4, .sc (.i .i64 a0_5)]), .w (.c (.sc (.i .i64 a1))), .w (.c (.sc (.i .i64 a2))), .w (.c (.sc (.i .i64 a3))), .w (.c (.sc (.i .i64 a4))), .w (.c (.sc (.i .i64 a5)))], [.rows 0 (.e80 l0_0), .rows 0 (.e84 l0_1), .rows 0 (.e106 l0_2), .rows 0 (.e110 l0_3), .rows 0 (.e60 l0_4)] => (own_BookIssue.f k l0_0 l0_1 l0_2 l0_3 l0_4 a0_5 a1 a2 a3 a4 a5).bind fun r => K (o19 l0_0 l0_1 l0_2 l0_3 l0_4 r)
  | _, _ => none
def q19 : Cal Rw := ⟨19, false, Q19⟩
def O19 : List (Cal Rw) := [q28, q29, q66, q57, q62, q30, q68, q67, q69]
def K19 : List (Cut Rw) := []
theorem d19 : Sound Tryz.prog q19 := fn_d (O := O19) (cs := K19) (cons_ d28 (cons_ d29 (cons_ d66 (cons_ d57 (cons_ d62 (cons_ d30 (cons_ d68 (cons_ d67 (cons_ d69 nil_))))))))) mixed Tryz.func19 nil_ nil_ fun k a h Z K z e => by
  unfold Q19 at e; split at e
  · rename_i a0_5 a1 a2 a3 a4 a5 l0_0 l0_1 l0_2 l0_3 l0_4
    exact ent e (Lo.of (b := ((spec_BooksOk.f k l0_0 l0_1 l0_2 l0_3 l0_4 a0_5).bind fun r12 => (if r12 = true then ((spec_l3No.f a1).bind fun r13 => (if r13 = true then ((spec_l3No.f a2).bind fun r14 => (if r14 = true then ((spec_l3No.f a3).bind fun r15 => (if r15 = true then ((spec_l1Some.f a4 1).bind fun r16 => (if r16 = true then ((spec_l1Some.f a5 0).bind fun r17 => (if r17 = true then ((spec_AccountKind.f k l0_0 a1).bind fun r18 => ((spec_AccountKind.f k l0_0 a2).bind fun r19 => ((spec_InstrKind.f k l0_1 a3).bind fun r20 => (if r18 = 0 then ((spec_l6Copy.f l0_0 l0_1 l0_2 l0_3 l0_4 a0_5).bind fun r21 => (some (o19 l0_0 l0_1 l0_2 l0_3 l0_4 (r21.1, r21.2.1, r21.2.2.1, r21.2.2.2.1, r21.2.2.2.2.1, r21.2.2.2.2.2, 3)))) else (if r19 = 0 then ((spec_l6Copy.f l0_0 l0_1 l0_2 l0_3 l0_4 a0_5).bind fun r21 => (some (o19 l0_0 l0_1 l0_2 l0_3 l0_4 (r21.1, r21.2.1, r21.2.2.1, r21.2.2.2.1, r21.2.2.2.2.1, r21.2.2.2.2.2, 3)))) else (if r20 = 0 then ((spec_l6Copy.f l0_0 l0_1 l0_2 l0_3 l0_4 a0_5).bind fun r21 => (some (o19 l0_0 l0_1 l0_2 l0_3 l0_4 (r21.1, r21.2.1, r21.2.2.1, r21.2.2.2.1, r21.2.2.2.2.1, r21.2.2.2.2.2, 3)))) else (if r18 = 2 then (if r19 = 1 then (if a5 > 0 then (if r20 = 1 then ((spec_l6Copy.f l0_0 l0_1 l0_2 l0_3 l0_4 a0_5).bind fun r21 => (some (o19 l0_0 l0_1 l0_2 l0_3 l0_4 (r21.1, r21.2.1, r21.2.2.1, r21.2.2.2.1, r21.2.2.2.2.1, r21.2.2.2.2.2, 4)))) else ((spec_l6Copy.f l0_0 l0_1 l0_2 l0_3 l0_4 a0_5).bind fun r21 => ((spec_l6Pair.f a1 a2 a3 a4).bind fun r22 => ((spec_l6Short.f k r21.1 r21.2.1 r21.2.2.1 r21.2.2.2.1 r21.2.2.2.2.1 r21.2.2.2.2.2).bind fun r823 => ((spec_BalsPost.f k r21.2.2.1 r22 r823).bind fun r924 => (if r924.2 = 0 then (if 0 = 0 then (if r20 = 2 then (if r21.2.2.2.2.2 = 1000000000 then (if 7 = 0 then (some (o19 l0_0 l0_1 l0_2 l0_3 l0_4 (r21.1, r21.2.1, r924.1, r21.2.2.2.1, r21.2.2.2.2.1, r21.2.2.2.2.2, 0))) else ((spec_l6Copy.f l0_0 l0_1 l0_2 l0_3 l0_4 a0_5).bind fun r25 => (some (o19 l0_0 l0_1 l0_2 l0_3 l0_4 (r25.1, r25.2.1, r25.2.2.1, r25.2.2.2.1, r25.2.2.2.2.1, r25.2.2.2.2.2, 7))))) else ((spec_LotOpen.f k r21.2.2.2.1 a2 a3 (RowKit.wrap64 (r21.2.2.2.2.2 + 1)) a4 a5).bind fun r1125 => (if r1125.2 = 0 then (if 0 = 0 then (some (o19 l0_0 l0_1 l0_2 l0_3 l0_4 (r21.1, r21.2.1, r924.1, r1125.1, r21.2.2.2.2.1, RowKit.wrap64 (r21.2.2.2.2.2 + 1), 0))) else ((spec_l6Copy.f l0_0 l0_1 l0_2 l0_3 l0_4 a0_5).bind fun r26 => (some (o19 l0_0 l0_1 l0_2 l0_3 l0_4 (r26.1, r26.2.1, r26.2.2.1, r26.2.2.2.1, r26.2.2.2.2.1, r26.2.2.2.2.2, 0))))) else (if 7 = 0 then (some (o19 l0_0 l0_1 l0_2 l0_3 l0_4 (r21.1, r21.2.1, r924.1, r21.2.2.2.1, r21.2.2.2.2.1, r21.2.2.2.2.2, 0))) else ((spec_l6Copy.f l0_0 l0_1 l0_2 l0_3 l0_4 a0_5).bind fun r26 => (some (o19 l0_0 l0_1 l0_2 l0_3 l0_4 (r26.1, r26.2.1, r26.2.2.1, r26.2.2.2.1, r26.2.2.2.2.1, r26.2.2.2.2.2, 7)))))))) else (if 0 = 0 then (some (o19 l0_0 l0_1 l0_2 l0_3 l0_4 (r21.1, r21.2.1, r924.1, r21.2.2.2.1, r21.2.2.2.2.1, r21.2.2.2.2.2, 0))) else ((spec_l6Copy.f l0_0 l0_1 l0_2 l0_3 l0_4 a0_5).bind fun r25 => (some (o19 l0_0 l0_1 l0_2 l0_3 l0_4 (r25.1, r25.2.1, r25.2.2.1, r25.2.2.2.1, r25.2.2.2.2.1, r25.2.2.2.2.2, 0)))))) else (if 0 = 0 then (some (o19 l0_0 l0_1 l0_2 l0_3 l0_4 (r21.1, r21.2.1, r924.1, r21.2.2.2.1, r21.2.2.2.2.1, r21.2.2.2.2.2, 0))) else ((spec_l6Copy.f l0_0 l0_1 l0_2 l0_3 l0_4 a0_5).bind fun r25 => (some (o19 l0_0 l0_1 l0_2 l0_3 l0_4 (r25.1, r25.2.1, r25.2.2.1, r25.2.2.2.1, r25.2.2.2.2.1, r25.2.2.2.2.2, 0)))))) else (if r924.2 = 3 then (if 5 = 0 then (if r20 = 2 then (if r21.2.2.2.2.2 = 1000000000 then (if 7 = 0 then (some (o19 l0_0 l0_1 l0_2 l0_3 l0_4 (r21.1, r21.2.1, r21.2.2.1, r21.2.2.2.1, r21.2.2.2.2.1, r21.2.2.2.2.2, 0))) else ((spec_l6Copy.f l0_0 l0_1 l0_2 l0_3 l0_4 a0_5).bind fun r25 => (some (o19 l0_0 l0_1 l0_2 l0_3 l0_4 (r25.1, r25.2.1, r25.2.2.1, r25.2.2.2.1, r25.2.2.2.2.1, r25.2.2.2.2.2, 7))))) else ((spec_LotOpen.f k r21.2.2.2.1 a2 a3 (RowKit.wrap64 (r21.2.2.2.2.2 + 1)) a4 a5).bind fun r1125 => (if r1125.2 = 0 then (if 0 = 0 then (some (o19 l0_0 l0_1 l0_2 l0_3 l0_4 (r21.1, r21.2.1, r21.2.2.1, r1125.1, r21.2.2.2.2.1, RowKit.wrap64 (r21.2.2.2.2.2 + 1), 0))) else ((spec_l6Copy.f l0_0 l0_1 l0_2 l0_3 l0_4 a0_5).bind fun r26 => (some (o19 l0_0 l0_1 l0_2 l0_3 l0_4 (r26.1, r26.2.1, r26.2.2.1, r26.2.2.2.1, r26.2.2.2.2.1, r26.2.2.2.2.2, 0))))) else (if 7 = 0 then (some (o19 l0_0 l0_1 l0_2 l0_3 l0_4 (r21.1, r21.2.1, r21.2.2.1, r21.2.2.2.1, r21.2.2.2.2.1, r21.2.2.2.2.2, 0))) else ((spec_l6Copy.f l0_0 l0_1 l0_2 l0_3 l0_4 a0_5).bind fun r26 => (some (o19 l0_0 l0_1 l0_2 l0_3 l0_4 (r26.1, r26.2.1, r26.2.2.1, r26.2.2.2.1, r26.2.2.2.2.1, r26.2.2.2.2.2, 7)))))))) else (if 5 = 0 then (some (o19 l0_0 l0_1 l0_2 l0_3 l0_4 (r21.1, r21.2.1, r21.2.2.1, r21.2.2.2.1, r21.2.2.2.2.1, r21.2.2.2.2.2, 0))) else ((spec_l6Copy.f l0_0 l0_1 l0_2 l0_3 l0_4 a0_5).bind fun r25 => (some (o19 l0_0 l0_1 l0_2 l0_3 l0_4 (r25.1, r25.2.1, r25.2.2.1, r25.2.2.2.1, r25.2.2.2.2.1, r25.2.2.2.2.2, 5)))))) else (if 5 = 0 then (some (o19 l0_0 l0_1 l0_2 l0_3 l0_4 (r21.1, r21.2.1, r21.2.2.1, r21.2.2.2.1, r21.2.2.2.2.1, r21.2.2.2.2.2, 0))) else ((spec_l6Copy.f l0_0 l0_1 l0_2 l0_3 l0_4 a0_5).bind fun r25 => (some (o19 l0_0 l0_1 l0_2 l0_3 l0_4 (r25.1, r25.2.1, r25.2.2.1, r25.2.2.2.1, r25.2.2.2.2.1, r25.2.2.2.2.2, 5)))))) else (if r924.2 = 4 then (if 8 = 0 then (if r20 = 2 then (if r21.2.2.2.2.2 = 1000000000 then (if 7 = 0 then (some (o19 l0_0 l0_1 l0_2 l0_3 l0_4 (r21.1, r21.2.1, r21.2.2.1, r21.2.2.2.1, r21.2.2.2.2.1, r21.2.2.2.2.2, 0))) else ((spec_l6Copy.f l0_0 l0_1 l0_2 l0_3 l0_4 a0_5).bind fun r25 => (some (o19 l0_0 l0_1 l0_2 l0_3 l0_4 (r25.1, r25.2.1, r25.2.2.1, r25.2.2.2.1, r25.2.2.2.2.1, r25.2.2.2.2.2, 7))))) else ((spec_LotOpen.f k r21.2.2.2.1 a2 a3 (RowKit.wrap64 (r21.2.2.2.2.2 + 1)) a4 a5).bind fun r1125 => (if r1125.2 = 0 then (if 0 = 0 then (some (o19 l0_0 l0_1 l0_2 l0_3 l0_4 (r21.1, r21.2.1, r21.2.2.1, r1125.1, r21.2.2.2.2.1, RowKit.wrap64 (r21.2.2.2.2.2 + 1), 0))) else ((spec_l6Copy.f l0_0 l0_1 l0_2 l0_3 l0_4 a0_5).bind fun r26 => (some (o19 l0_0 l0_1 l0_2 l0_3 l0_4 (r26.1, r26.2.1, r26.2.2.1, r26.2.2.2.1, r26.2.2.2.2.1, r26.2.2.2.2.2, 0))))) else (if 7 = 0 then (some (o19 l0_0 l0_1 l0_2 l0_3 l0_4 (r21.1, r21.2.1, r21.2.2.1, r21.2.2.2.1, r21.2.2.2.2.1, r21.2.2.2.2.2, 0))) else ((spec_l6Copy.f l0_0 l0_1 l0_2 l0_3 l0_4 a0_5).bind fun r26 => (some (o19 l0_0 l0_1 l0_2 l0_3 l0_4 (r26.1, r26.2.1, r26.2.2.1, r26.2.2.2.1, r26.2.2.2.2.1, r26.2.2.2.2.2, 7)))))))) else (if 8 = 0 then (some (o19 l0_0 l0_1 l0_2 l0_3 l0_4 (r21.1, r21.2.1, r21.2.2.1, r21.2.2.2.1, r21.2.2.2.2.1, r21.2.2.2.2.2, 0))) else ((spec_l6Copy.f l0_0 l0_1 l0_2 l0_3 l0_4 a0_5).bind fun r25 => (some (o19 l0_0 l0_1 l0_2 l0_3 l0_4 (r25.1, r25.2.1, r25.2.2.1, r25.2.2.2.1, r25.2.2.2.2.1, r25.2.2.2.2.2, 8)))))) else (if 8 = 0 then (some (o19 l0_0 l0_1 l0_2 l0_3 l0_4 (r21.1, r21.2.1, r21.2.2.1, r21.2.2.2.1, r21.2.2.2.2.1, r21.2.2.2.2.2, 0))) else ((spec_l6Copy.f l0_0 l0_1 l0_2 l0_3 l0_4 a0_5).bind fun r25 => (some (o19 l0_0 l0_1 l0_2 l0_3 l0_4 (r25.1, r25.2.1, r25.2.2.1, r25.2.2.2.1, r25.2.2.2.2.1, r25.2.2.2.2.2, 8)))))) else (if 7 = 0 then (if r20 = 2 then (if r21.2.2.2.2.2 = 1000000000 then (if 7 = 0 then (some (o19 l0_0 l0_1 l0_2 l0_3 l0_4 (r21.1, r21.2.1, r21.2.2.1, r21.2.2.2.1, r21.2.2.2.2.1, r21.2.2.2.2.2, 0))) else ((spec_l6Copy.f l0_0 l0_1 l0_2 l0_3 l0_4 a0_5).bind fun r25 => (some (o19 l0_0 l0_1 l0_2 l0_3 l0_4 (r25.1, r25.2.1, r25.2.2.1, r25.2.2.2.1, r25.2.2.2.2.1, r25.2.2.2.2.2, 7))))) else ((spec_LotOpen.f k r21.2.2.2.1 a2 a3 (RowKit.wrap64 (r21.2.2.2.2.2 + 1)) a4 a5).bind fun r1125 => (if r1125.2 = 0 then (if 0 = 0 then (some (o19 l0_0 l0_1 l0_2 l0_3 l0_4 (r21.1, r21.2.1, r21.2.2.1, r1125.1, r21.2.2.2.2.1, RowKit.wrap64 (r21.2.2.2.2.2 + 1), 0))) else ((spec_l6Copy.f l0_0 l0_1 l0_2 l0_3 l0_4 a0_5).bind fun r26 => (some (o19 l0_0 l0_1 l0_2 l0_3 l0_4 (r26.1, r26.2.1, r26.2.2.1, r26.2.2.2.1, r26.2.2.2.2.1, r26.2.2.2.2.2, 0))))) else (if 7 = 0 then (some (o19 l0_0 l0_1 l0_2 l0_3 l0_4 (r21.1, r21.2.1, r21.2.2.1, r21.2.2.2.1, r21.2.2.2.2.1, r21.2.2.2.2.2, 0))) else ((spec_l6Copy.f l0_0 l0_1 l0_2 l0_3 l0_4 a0_5).bind fun r26 => (some (o19 l0_0 l0_1 l0_2 l0_3 l0_4 (r26.1, r26.2.1, r26.2.2.1, r26.2.2.2.1, r26.2.2.2.2.1, r26.2.2.2.2.2, 7)))))))) else (if 7 = 0 then (some (o19 l0_0 l0_1 l0_2 l0_3 l0_4 (r21.1, r21.2.1, r21.2.2.1, r21.2.2.2.1, r21.2.2.2.2.1, r21.2.2.2.2.2, 0))) else ((spec_l6Copy.f l0_0 l0_1 l0_2 l0_3 l0_4 a0_5).bind fun r25 => (some (o19 l0_0 l0_1 l0_2 l0_3 l0_4 (r25.1, r25.2.1, r25.2.2.1, r25.2.2.2.1, r25.2.2.2.2.1, r25.2.2.2.2.2, 7)))))) else (if 7 = 0 then (some (o19 l0_0 l0_1 l0_2 l0_3 l0_4 (r21.1, r21.2.1, r21.2.2.1, r21.2.2.2.1, r21.2.2.2.2.1, r21.2.2.2.2.2, 0))) else ((spec_l6Copy.f l0_0 l0_1 l0_2 l0_3 l0_4 a0_5).bind fun r25 => (some (o19 l0_0 l0_1 l0_2 l0_3 l0_4 (r25.1, r25.2.1, r25.2.2.1, r25.2.2.2.1, r25.2.2.2.2.1, r25.2.2.2.2.2, 7)))))))))))))) else ((spec_l6Copy.f l0_0 l0_1 l0_2 l0_3 l0_4 a0_5).bind fun r21 => ((spec_l6Pair.f a1 a2 a3 a4).bind fun r22 => ((spec_l6Short.f k r21.1 r21.2.1 r21.2.2.1 r21.2.2.2.1 r21.2.2.2.2.1 r21.2.2.2.2.2).bind fun r823 => ((spec_BalsPost.f k r21.2.2.1 r22 r823).bind fun r924 => (if r924.2 = 0 then (if 0 = 0 then (if r20 = 2 then (if r21.2.2.2.2.2 = 1000000000 then (if 7 = 0 then (some (o19 l0_0 l0_1 l0_2 l0_3 l0_4 (r21.1, r21.2.1, r924.1, r21.2.2.2.1, r21.2.2.2.2.1, r21.2.2.2.2.2, 0))) else ((spec_l6Copy.f l0_0 l0_1 l0_2 l0_3 l0_4 a0_5).bind fun r25 => (some (o19 l0_0 l0_1 l0_2 l0_3 l0_4 (r25.1, r25.2.1, r25.2.2.1, r25.2.2.2.1, r25.2.2.2.2.1, r25.2.2.2.2.2, 7))))) else ((spec_LotOpen.f k r21.2.2.2.1 a2 a3 (RowKit.wrap64 (r21.2.2.2.2.2 + 1)) a4 a5).bind fun r1125 => (if r1125.2 = 0 then (if 0 = 0 then (some (o19 l0_0 l0_1 l0_2 l0_3 l0_4 (r21.1, r21.2.1, r924.1, r1125.1, r21.2.2.2.2.1, RowKit.wrap64 (r21.2.2.2.2.2 + 1), 0))) else ((spec_l6Copy.f l0_0 l0_1 l0_2 l0_3 l0_4 a0_5).bind fun r26 => (some (o19 l0_0 l0_1 l0_2 l0_3 l0_4 (r26.1, r26.2.1, r26.2.2.1, r26.2.2.2.1, r26.2.2.2.2.1, r26.2.2.2.2.2, 0))))) else (if 7 = 0 then (some (o19 l0_0 l0_1 l0_2 l0_3 l0_4 (r21.1, r21.2.1, r924.1, r21.2.2.2.1, r21.2.2.2.2.1, r21.2.2.2.2.2, 0))) else ((spec_l6Copy.f l0_0 l0_1 l0_2 l0_3 l0_4 a0_5).bind fun r26 => (some (o19 l0_0 l0_1 l0_2 l0_3 l0_4 (r26.1, r26.2.1, r26.2.2.1, r26.2.2.2.1, r26.2.2.2.2.1, r26.2.2.2.2.2, 7)))))))) else (if 0 = 0 then (some (o19 l0_0 l0_1 l0_2 l0_3 l0_4 (r21.1, r21.2.1, r924.1, r21.2.2.2.1, r21.2.2.2.2.1, r21.2.2.2.2.2, 0))) else ((spec_l6Copy.f l0_0 l0_1 l0_2 l0_3 l0_4 a0_5).bind fun r25 => (some (o19 l0_0 l0_1 l0_2 l0_3 l0_4 (r25.1, r25.2.1, r25.2.2.1, r25.2.2.2.1, r25.2.2.2.2.1, r25.2.2.2.2.2, 0)))))) else (if 0 = 0 then (some (o19 l0_0 l0_1 l0_2 l0_3 l0_4 (r21.1, r21.2.1, r924.1, r21.2.2.2.1, r21.2.2.2.2.1, r21.2.2.2.2.2, 0))) else ((spec_l6Copy.f l0_0 l0_1 l0_2 l0_3 l0_4 a0_5).bind fun r25 => (some (o19 l0_0 l0_1 l0_2 l0_3 l0_4 (r25.1, r25.2.1, r25.2.2.1, r25.2.2.2.1, r25.2.2.2.2.1, r25.2.2.2.2.2, 0)))))) else (if r924.2 = 3 then (if 5 = 0 then (if r20 = 2 then (if r21.2.2.2.2.2 = 1000000000 then (if 7 = 0 then (some (o19 l0_0 l0_1 l0_2 l0_3 l0_4 (r21.1, r21.2.1, r21.2.2.1, r21.2.2.2.1, r21.2.2.2.2.1, r21.2.2.2.2.2, 0))) else ((spec_l6Copy.f l0_0 l0_1 l0_2 l0_3 l0_4 a0_5).bind fun r25 => (some (o19 l0_0 l0_1 l0_2 l0_3 l0_4 (r25.1, r25.2.1, r25.2.2.1, r25.2.2.2.1, r25.2.2.2.2.1, r25.2.2.2.2.2, 7))))) else ((spec_LotOpen.f k r21.2.2.2.1 a2 a3 (RowKit.wrap64 (r21.2.2.2.2.2 + 1)) a4 a5).bind fun r1125 => (if r1125.2 = 0 then (if 0 = 0 then (some (o19 l0_0 l0_1 l0_2 l0_3 l0_4 (r21.1, r21.2.1, r21.2.2.1, r1125.1, r21.2.2.2.2.1, RowKit.wrap64 (r21.2.2.2.2.2 + 1), 0))) else ((spec_l6Copy.f l0_0 l0_1 l0_2 l0_3 l0_4 a0_5).bind fun r26 => (some (o19 l0_0 l0_1 l0_2 l0_3 l0_4 (r26.1, r26.2.1, r26.2.2.1, r26.2.2.2.1, r26.2.2.2.2.1, r26.2.2.2.2.2, 0))))) else (if 7 = 0 then (some (o19 l0_0 l0_1 l0_2 l0_3 l0_4 (r21.1, r21.2.1, r21.2.2.1, r21.2.2.2.1, r21.2.2.2.2.1, r21.2.2.2.2.2, 0))) else ((spec_l6Copy.f l0_0 l0_1 l0_2 l0_3 l0_4 a0_5).bind fun r26 => (some (o19 l0_0 l0_1 l0_2 l0_3 l0_4 (r26.1, r26.2.1, r26.2.2.1, r26.2.2.2.1, r26.2.2.2.2.1, r26.2.2.2.2.2, 7)))))))) else (if 5 = 0 then (some (o19 l0_0 l0_1 l0_2 l0_3 l0_4 (r21.1, r21.2.1, r21.2.2.1, r21.2.2.2.1, r21.2.2.2.2.1, r21.2.2.2.2.2, 0))) else ((spec_l6Copy.f l0_0 l0_1 l0_2 l0_3 l0_4 a0_5).bind fun r25 => (some (o19 l0_0 l0_1 l0_2 l0_3 l0_4 (r25.1, r25.2.1, r25.2.2.1, r25.2.2.2.1, r25.2.2.2.2.1, r25.2.2.2.2.2, 5)))))) else (if 5 = 0 then (some (o19 l0_0 l0_1 l0_2 l0_3 l0_4 (r21.1, r21.2.1, r21.2.2.1, r21.2.2.2.1, r21.2.2.2.2.1, r21.2.2.2.2.2, 0))) else ((spec_l6Copy.f l0_0 l0_1 l0_2 l0_3 l0_4 a0_5).bind fun r25 => (some (o19 l0_0 l0_1 l0_2 l0_3 l0_4 (r25.1, r25.2.1, r25.2.2.1, r25.2.2.2.1, r25.2.2.2.2.1, r25.2.2.2.2.2, 5)))))) else (if r924.2 = 4 then (if 8 = 0 then (if r20 = 2 then (if r21.2.2.2.2.2 = 1000000000 then (if 7 = 0 then (some (o19 l0_0 l0_1 l0_2 l0_3 l0_4 (r21.1, r21.2.1, r21.2.2.1, r21.2.2.2.1, r21.2.2.2.2.1, r21.2.2.2.2.2, 0))) else ((spec_l6Copy.f l0_0 l0_1 l0_2 l0_3 l0_4 a0_5).bind fun r25 => (some (o19 l0_0 l0_1 l0_2 l0_3 l0_4 (r25.1, r25.2.1, r25.2.2.1, r25.2.2.2.1, r25.2.2.2.2.1, r25.2.2.2.2.2, 7))))) else ((spec_LotOpen.f k r21.2.2.2.1 a2 a3 (RowKit.wrap64 (r21.2.2.2.2.2 + 1)) a4 a5).bind fun r1125 => (if r1125.2 = 0 then (if 0 = 0 then (some (o19 l0_0 l0_1 l0_2 l0_3 l0_4 (r21.1, r21.2.1, r21.2.2.1, r1125.1, r21.2.2.2.2.1, RowKit.wrap64 (r21.2.2.2.2.2 + 1), 0))) else ((spec_l6Copy.f l0_0 l0_1 l0_2 l0_3 l0_4 a0_5).bind fun r26 => (some (o19 l0_0 l0_1 l0_2 l0_3 l0_4 (r26.1, r26.2.1, r26.2.2.1, r26.2.2.2.1, r26.2.2.2.2.1, r26.2.2.2.2.2, 0))))) else (if 7 = 0 then (some (o19 l0_0 l0_1 l0_2 l0_3 l0_4 (r21.1, r21.2.1, r21.2.2.1, r21.2.2.2.1, r21.2.2.2.2.1, r21.2.2.2.2.2, 0))) else ((spec_l6Copy.f l0_0 l0_1 l0_2 l0_3 l0_4 a0_5).bind fun r26 => (some (o19 l0_0 l0_1 l0_2 l0_3 l0_4 (r26.1, r26.2.1, r26.2.2.1, r26.2.2.2.1, r26.2.2.2.2.1, r26.2.2.2.2.2, 7)))))))) else (if 8 = 0 then (some (o19 l0_0 l0_1 l0_2 l0_3 l0_4 (r21.1, r21.2.1, r21.2.2.1, r21.2.2.2.1, r21.2.2.2.2.1, r21.2.2.2.2.2, 0))) else ((spec_l6Copy.f l0_0 l0_1 l0_2 l0_3 l0_4 a0_5).bind fun r25 => (some (o19 l0_0 l0_1 l0_2 l0_3 l0_4 (r25.1, r25.2.1, r25.2.2.1, r25.2.2.2.1, r25.2.2.2.2.1, r25.2.2.2.2.2, 8)))))) else (if 8 = 0 then (some (o19 l0_0 l0_1 l0_2 l0_3 l0_4 (r21.1, r21.2.1, r21.2.2.1, r21.2.2.2.1, r21.2.2.2.2.1, r21.2.2.2.2.2, 0))) else ((spec_l6Copy.f l0_0 l0_1 l0_2 l0_3 l0_4 a0_5).bind fun r25 => (some (o19 l0_0 l0_1 l0_2 l0_3 l0_4 (r25.1, r25.2.1, r25.2.2.1, r25.2.2.2.1, r25.2.2.2.2.1, r25.2.2.2.2.2, 8)))))) else (if 7 = 0 then (if r20 = 2 then (if r21.2.2.2.2.2 = 1000000000 then (if 7 = 0 then (some (o19 l0_0 l0_1 l0_2 l0_3 l0_4 (r21.1, r21.2.1, r21.2.2.1, r21.2.2.2.1, r21.2.2.2.2.1, r21.2.2.2.2.2, 0))) else ((spec_l6Copy.f l0_0 l0_1 l0_2 l0_3 l0_4 a0_5).bind fun r25 => (some (o19 l0_0 l0_1 l0_2 l0_3 l0_4 (r25.1, r25.2.1, r25.2.2.1, r25.2.2.2.1, r25.2.2.2.2.1, r25.2.2.2.2.2, 7))))) else ((spec_LotOpen.f k r21.2.2.2.1 a2 a3 (RowKit.wrap64 (r21.2.2.2.2.2 + 1)) a4 a5).bind fun r1125 => (if r1125.2 = 0 then (if 0 = 0 then (some (o19 l0_0 l0_1 l0_2 l0_3 l0_4 (r21.1, r21.2.1, r21.2.2.1, r1125.1, r21.2.2.2.2.1, RowKit.wrap64 (r21.2.2.2.2.2 + 1), 0))) else ((spec_l6Copy.f l0_0 l0_1 l0_2 l0_3 l0_4 a0_5).bind fun r26 => (some (o19 l0_0 l0_1 l0_2 l0_3 l0_4 (r26.1, r26.2.1, r26.2.2.1, r26.2.2.2.1, r26.2.2.2.2.1, r26.2.2.2.2.2, 0))))) else (if 7 = 0 then (some (o19 l0_0 l0_1 l0_2 l0_3 l0_4 (r21.1, r21.2.1, r21.2.2.1, r21.2.2.2.1, r21.2.2.2.2.1, r21.2.2.2.2.2, 0))) else ((spec_l6Copy.f l0_0 l0_1 l0_2 l0_3 l0_4 a0_5).bind fun r26 => (some (o19 l0_0 l0_1 l0_2 l0_3 l0_4 (r26.1, r26.2.1, r26.2.2.1, r26.2.2.2.1, r26.2.2.2.2.1, r26.2.2.2.2.2, 7)))))))) else (if 7 = 0 then (some (o19 l0_0 l0_1 l0_2 l0_3 l0_4 (r21.1, r21.2.1, r21.2.2.1, r21.2.2.2.1, r21.2.2.2.2.1, r21.2.2.2.2.2, 0))) else ((spec_l6Copy.f l0_0 l0_1 l0_2 l0_3 l0_4 a0_5).bind fun r25 => (some (o19 l0_0 l0_1 l0_2 l0_3 l0_4 (r25.1, r25.2.1, r25.2.2.1, r25.2.2.2.1, r25.2.2.2.2.1, r25.2.2.2.2.2, 7)))))) else (if 7 = 0 then (some (o19 l0_0 l0_1 l0_2 l0_3 l0_4 (r21.1, r21.2.1, r21.2.2.1, r21.2.2.2.1, r21.2.2.2.2.1, r21.2.2.2.2.2, 0))) else ((spec_l6Copy.f l0_0 l0_1 l0_2 l0_3 l0_4 a0_5).bind fun r25 => (some (o19 l0_0 l0_1 l0_2 l0_3 l0_4 (r25.1, r25.2.1, r25.2.2.1, r25.2.2.2.1, r25.2.2.2.2.1, r25.2.2.2.2.2, 7)))))))))))))) else ((spec_l6Copy.f l0_0 l0_1 l0_2 l0_3 l0_4 a0_5).bind fun r21 => (some (o19 l0_0 l0_1 l0_2 l0_3 l0_4 (r21.1, r21.2.1, r21.2.2.1, r21.2.2.2.1, r21.2.2.2.2.1, r21.2.2.2.2.2, 4))))) else ((spec_l6Copy.f l0_0 l0_1 l0_2 l0_3 l0_4 a0_5).bind fun r21 => (some (o19 l0_0 l0_1 l0_2 l0_3 l0_4 (r21.1, r21.2.1, r21.2.2.1, r21.2.2.2.1, r21.2.2.2.2.1, r21.2.2.2.2.2, 4))))))))))) else (some (o19 l0_0 l0_1 l0_2 l0_3 l0_4 ([], [], [], [], [], 0, 1))))) else (some (o19 l0_0 l0_1 l0_2 l0_3 l0_4 ([], [], [], [], [], 0, 1))))) else (some (o19 l0_0 l0_1 l0_2 l0_3 l0_4 ([], [], [], [], [], 0, 1))))) else (some (o19 l0_0 l0_1 l0_2 l0_3 l0_4 ([], [], [], [], [], 0, 1))))) else (some (o19 l0_0 l0_1 l0_2 l0_3 l0_4 ([], [], [], [], [], 0, 1))))) else (some (o19 l0_0 l0_1 l0_2 l0_3 l0_4 ([], [], [], [], [], 0, 1)))))) (by kernel_rfl) (by unfold own_BookIssue.f; exact lon_))
  · cases e
def o89 (l0 : List S80) (r : Bool) : Out Rw := ⟨[.c (.sc (.b r))], [.rows 0 (.e80 l0)]⟩
def Q89 : Mean Rw := fun k a h Z K => match a, h with
  | [.w (.c (.rw 0))], [.rows 0 (.e80 l0)] => (impl_AccountsOk.f k l0).bind fun r => K (o89 l0 r)
  | _, _ => none
def q89 : Cal Rw := ⟨89, false, Q89⟩
def O89 : List (Cal Rw) := [q38, q59]
def C89_0 : Nat → St Rw → Option (Out Rw) := fun k st => match st with
  | ⟨41, 1, 1, [(0, .w (.c (.rw 0))), (5, .w (.c (.rw 0))), (6, .w (.c (.sc (.i .i64 x6)))), (7, .w (.c (.sc (.i .i64 x7))))], [(0, .rows 0 (.e80 l0))]⟩ => (impl_AccountsOk.l0 k l0 l0 x6 x7).bind fun r => some (o89 l0 r)
  | _ => none
def K89 : List (Cut Rw) := [⟨[false, true, false, true], [0, 5, 6, 7], C89_0⟩]
theorem h89_0 : HH Tryz.prog O89 K89 Tryz.f89 [false, true, false, true] C89_0 := fun k st out h => by
  unfold C89_0 at h; split at h
  · rename_i x6 x7 l0
    exact Lo.of (b := (if x7 < x6 then (if 0 ≤ x7 then (if x7 < (l0.length : Int) then ((impl_isNo.f (rd_T80 l0 x7).f0).bind fun r4 => (if r4 = true then ((impl_in.f (rd_T80 l0 x7).f1 1 4).bind fun r5 => (if r5 = true then (if x7 > 0 then (if 0 ≤ RowKit.wrap64 (x7 - 1) then (if RowKit.wrap64 (x7 - 1) < (l0.length : Int) then (if (rd_T80 l0 (RowKit.wrap64 (x7 - 1))).f0 ≥ (rd_T80 l0 x7).f0 then (some (o89 l0 false)) else ((impl_AccountsOk.l0 k l0 l0 x6 (RowKit.wrap64 (x7 + 1))).bind fun r => some (o89 l0 r))) else none) else none) else ((impl_AccountsOk.l0 k l0 l0 x6 (RowKit.wrap64 (x7 + 1))).bind fun r => some (o89 l0 r))) else (some (o89 l0 false)))) else (some (o89 l0 false)))) else none) else none) else (some (o89 l0 (decide ((l0.length : Int) ≤ 20)))))) (by kernel_rfl) (by rw [impl_AccountsOk.l0]; exact lo_) _ h
  · cases h
theorem d89 : Sound Tryz.prog q89 := fn_d (O := O89) (cs := K89) (cons_ d38 (cons_ d59 nil_)) mixed Tryz.func89 (cons_ (fun st => by show C89_0 0 st = none; unfold C89_0; split <;> rfl) nil_) (cons_ h89_0 nil_) fun k a h Z K z e => by
  unfold Q89 at e; split at e
  · rename_i l0
    exact ent e (Lo.of (b := ((impl_AccountsOk.l0 k l0 l0 ((l0.length : Int)) 0).bind fun r => some (o89 l0 r))) (by kernel_rfl) (by unfold impl_AccountsOk.f; exact lo_))
  · cases e
def o90 (l0 : List S84) (r : Bool) : Out Rw := ⟨[.c (.sc (.b r))], [.rows 0 (.e84 l0)]⟩
def Q90 : Mean Rw := fun k a h Z K => match a, h with
  | [.w (.c (.rw 0))], [.rows 0 (.e84 l0)] => (impl_InstrsOk.f k l0).bind fun r => K (o90 l0 r)
  | _, _ => none
def q90 : Cal Rw := ⟨90, false, Q90⟩
def O90 : List (Cal Rw) := [q38, q59]
def C90_0 : Nat → St Rw → Option (Out Rw) := fun k st => match st with
  | ⟨41, 1, 1, [(0, .w (.c (.rw 0))), (5, .w (.c (.rw 0))), (6, .w (.c (.sc (.i .i64 x6)))), (7, .w (.c (.sc (.i .i64 x7))))], [(0, .rows 0 (.e84 l0))]⟩ => (impl_InstrsOk.l0 k l0 l0 x6 x7).bind fun r => some (o90 l0 r)
  | _ => none
def K90 : List (Cut Rw) := [⟨[false, true, false, true], [0, 5, 6, 7], C90_0⟩]
theorem h90_0 : HH Tryz.prog O90 K90 Tryz.f90 [false, true, false, true] C90_0 := fun k st out h => by
  unfold C90_0 at h; split at h
  · rename_i x6 x7 l0
    exact Lo.of (b := (if x7 < x6 then (if 0 ≤ x7 then (if x7 < (l0.length : Int) then ((impl_isNo.f (rd_T84 l0 x7).f0).bind fun r4 => (if r4 = true then ((impl_in.f (rd_T84 l0 x7).f1 1 2).bind fun r5 => (if r5 = true then (if x7 > 0 then (if 0 ≤ RowKit.wrap64 (x7 - 1) then (if RowKit.wrap64 (x7 - 1) < (l0.length : Int) then (if (rd_T84 l0 (RowKit.wrap64 (x7 - 1))).f0 ≥ (rd_T84 l0 x7).f0 then (some (o90 l0 false)) else ((impl_InstrsOk.l0 k l0 l0 x6 (RowKit.wrap64 (x7 + 1))).bind fun r => some (o90 l0 r))) else none) else none) else ((impl_InstrsOk.l0 k l0 l0 x6 (RowKit.wrap64 (x7 + 1))).bind fun r => some (o90 l0 r))) else (some (o90 l0 false)))) else (some (o90 l0 false)))) else none) else none) else (some (o90 l0 (decide ((l0.length : Int) ≤ 8)))))) (by kernel_rfl) (by rw [impl_InstrsOk.l0]; exact lo_) _ h
  · cases h
theorem d90 : Sound Tryz.prog q90 := fn_d (O := O90) (cs := K90) (cons_ d38 (cons_ d59 nil_)) mixed Tryz.func90 (cons_ (fun st => by show C90_0 0 st = none; unfold C90_0; split <;> rfl) nil_) (cons_ h90_0 nil_) fun k a h Z K z e => by
  unfold Q90 at e; split at e
  · rename_i l0
    exact ent e (Lo.of (b := ((impl_InstrsOk.l0 k l0 l0 ((l0.length : Int)) 0).bind fun r => some (o90 l0 r))) (by kernel_rfl) (by unfold impl_InstrsOk.f; exact lo_))
  · cases e
def o91 (l0 : List S106) (r : Bool) : Out Rw := ⟨[.c (.sc (.b r))], [.rows 0 (.e106 l0)]⟩
def Q91 : Mean Rw := fun k a h Z K => match a, h with
  | [.w (.c (.rw 0))], [.rows 0 (.e106 l0)] => (impl_BalsOk.f k l0).bind fun r => K (o91 l0 r)
  | _, _ => none
def q91 : Cal Rw := ⟨91, false, Q91⟩
def O91 : List (Cal Rw) := [q38, q130, q131]
def C91_0 : Nat → St Rw → Option (Out Rw) := fun k st => match st with
  | ⟨59, 1, 1, [(0, .w (.c (.rw 0))), (5, .w (.c (.rw 0))), (6, .w (.c (.sc (.i .i64 x6)))), (7, .w (.c (.sc (.i .i64 x7))))], [(0, .rows 0 (.e106 l0))]⟩ => (impl_BalsOk.l0 k l0 l0 x6 x7).bind fun r => some (o91 l0 r)
  | _ => none
def C91_1 : Nat → St Rw → Option (Out Rw) := fun k st => match st with
  | ⟨59, 1, 2, [(0, .w (.c (.rw 0))), (3, .w (.c (.sc (.i .i64 x3)))), (4, .pt 1 0), (5, .w (.c (.rw 0))), (6, .w (.c (.sc (.i .i64 x6)))), (7, .w (.c (.sc (.i .i64 x7)))), (32, .w (.c (.sc (.b x32))))], [(0, .rows 0 (.e106 l0)), (1, .box 106 [.sc (.i .i64 b1_0), .sc (.i .i64 b1_1), .sc (.i .i64 b1_2)])]⟩ => (impl_BalsOk.j1 k l0 x3 l0 x6 x7 x32 b1_0 b1_1 b1_2).bind fun r => some (o91 l0 r)
  | _ => none
def K91 : List (Cut Rw) := [⟨[false, true, false, true], [0, 5, 6, 7], C91_0⟩, ⟨[true, false, true, false, false, true, true, false, false, true, false, true], [0, 3, 4, 5, 6, 7, 32], C91_1⟩]
theorem h91_0 : HH Tryz.prog O91 K91 Tryz.f91 [false, true, false, true] C91_0 := fun k st out h => by
  unfold C91_0 at h; split at h
  · rename_i x6 x7 l0
    exact Lo.of (b := (if x7 < x6 then (if 0 ≤ x7 then (if x7 < (l0.length : Int) then ((impl_isNo.f (rd_T106 l0 x7).f0).bind fun r4 => (if r4 = true then ((impl_isNo.f (rd_T106 l0 x7).f1).bind fun r5 => (if r5 = true then ((impl_AmountOk.f (rd_T106 l0 x7).f2).bind fun r6 => (if r6 = true then ((impl_BalsOk.j1 k l0 x7 l0 x6 x7 (decide ((rd_T106 l0 x7).f2 = 0)) ((rd_T106 l0 x7).f0) ((rd_T106 l0 x7).f1) ((rd_T106 l0 x7).f2)).bind fun r => some (o91 l0 r)) else ((impl_BalsOk.j1 k l0 x7 l0 x6 x7 true ((rd_T106 l0 x7).f0) ((rd_T106 l0 x7).f1) ((rd_T106 l0 x7).f2)).bind fun r => some (o91 l0 r)))) else ((impl_BalsOk.j1 k l0 x7 l0 x6 x7 true ((rd_T106 l0 x7).f0) ((rd_T106 l0 x7).f1) ((rd_T106 l0 x7).f2)).bind fun r => some (o91 l0 r)))) else ((impl_BalsOk.j1 k l0 x7 l0 x6 x7 true ((rd_T106 l0 x7).f0) ((rd_T106 l0 x7).f1) ((rd_T106 l0 x7).f2)).bind fun r => some (o91 l0 r)))) else none) else none) else (some (o91 l0 (decide ((l0.length : Int) ≤ 160)))))) (by kernel_rfl) (by rw [impl_BalsOk.l0]; exact lo_) _ h
  · cases h
theorem h91_1 : HH Tryz.prog O91 K91 Tryz.f91 [true, false, true, false, false, true, true, false, false, true, false, true] C91_1 := fun k st out h => by
  unfold C91_1 at h; split at h
  · rename_i x3 x6 x7 x32 l0 b1_0 b1_1 b1_2
    exact Lo.of (b := (if x32 = true then (some (o91 l0 false)) else (if x3 > 0 then (if 0 ≤ RowKit.wrap64 (x3 - 1) then (if RowKit.wrap64 (x3 - 1) < (l0.length : Int) then (if 0 ≤ RowKit.wrap64 (x3 - 1) then (if RowKit.wrap64 (x3 - 1) < (l0.length : Int) then ((impl_byBoth.f k (rd_T106 l0 (RowKit.wrap64 (x3 - 1))).f0 (rd_T106 l0 (RowKit.wrap64 (x3 - 1))).f1 b1_0 b1_1).bind fun r9 => (if r9 ≥ 0 then (some (o91 l0 false)) else ((impl_BalsOk.l0 k l0 l0 x6 (RowKit.wrap64 (x7 + 1))).bind fun r => some (o91 l0 r)))) else none) else none) else none) else none) else ((impl_BalsOk.l0 k l0 l0 x6 (RowKit.wrap64 (x7 + 1))).bind fun r => some (o91 l0 r))))) (by kernel_rfl) (by rw [impl_BalsOk.j1]; exact lo_) _ h
  · cases h
theorem d91 : Sound Tryz.prog q91 := fn_d (O := O91) (cs := K91) (cons_ d38 (cons_ d130 (cons_ d131 nil_))) mixed Tryz.func91 (cons_ (fun st => by show C91_0 0 st = none; unfold C91_0; split <;> rfl) (cons_ (fun st => by show C91_1 0 st = none; unfold C91_1; split <;> rfl) nil_)) (cons_ h91_0 (cons_ h91_1 nil_)) fun k a h Z K z e => by
  unfold Q91 at e; split at e
  · rename_i l0
    exact ent e (Lo.of (b := ((impl_BalsOk.l0 k l0 l0 ((l0.length : Int)) 0).bind fun r => some (o91 l0 r))) (by kernel_rfl) (by unfold impl_BalsOk.f; exact lo_))
  · cases e
def o93 (l0 : List S60) (r : Bool) : Out Rw := ⟨[.c (.sc (.b r))], [.rows 0 (.e60 l0)]⟩
def Q93 : Mean Rw := fun k a h Z K => match a, h with
  | [.w (.c (.rw 0))], [.rows 0 (.e60 l0)] => (impl_TradesOk.f k l0).bind fun r => K (o93 l0 r)
  | _, _ => none
def q93 : Cal Rw := ⟨93, false, Q93⟩
def O93 : List (Cal Rw) := [q38, q59]
def C93_0 : Nat → St Rw → Option (Out Rw) := fun k st => match st with
  | ⟨82, 1, 1, [(0, .w (.c (.rw 0))), (5, .w (.c (.rw 0))), (6, .w (.c (.sc (.i .i64 x6)))), (7, .w (.c (.sc (.i .i64 x7))))], [(0, .rows 0 (.e60 l0))]⟩ => (impl_TradesOk.l0 k l0 l0 x6 x7).bind fun r => some (o93 l0 r)
  | _ => none
def C93_1 : Nat → St Rw → Option (Out Rw) := fun k st => match st with
  | ⟨82, 1, 2, [(0, .w (.c (.rw 0))), (3, .w (.c (.sc (.i .i64 x3)))), (4, .pt 1 0), (5, .w (.c (.rw 0))), (6, .w (.c (.sc (.i .i64 x6)))), (7, .w (.c (.sc (.i .i64 x7)))), (46, .w (.c (.sc (.b x46))))], [(0, .rows 0 (.e60 l0)), (1, .box 60 [.sc (.i .i64 b1_0), .sc (.i .i64 b1_1), .sc (.i .i64 b1_2), .sc (.i .i64 b1_3), .sc (.i .i64 b1_4), .sc (.i .i64 b1_5), .sc (.i .i64 b1_6), .sc (.i .i64 b1_7)])]⟩ => (impl_TradesOk.j1 k l0 x3 l0 x6 x7 x46 b1_0 b1_1 b1_2 b1_3 b1_4 b1_5 b1_6 b1_7).bind fun r => some (o93 l0 r)
  | _ => none
def K93 : List (Cut Rw) := [⟨[false, true, false, true], [0, 5, 6, 7], C93_0⟩, ⟨[true, false, true, false, false, true, true, false, false, true, false, true], [0, 3, 4, 5, 6, 7, 46], C93_1⟩]
theorem h93_0 : HH Tryz.prog O93 K93 Tryz.f93 [false, true, false, true] C93_0 := fun k st out h => by
  unfold C93_0 at h; split at h
  · rename_i x6 x7 l0
    exact Lo.of (b := (if x7 < x6 then (if 0 ≤ x7 then (if x7 < (l0.length : Int) then ((impl_isNo.f (rd_T60 l0 x7).f0).bind fun r4 => (if r4 = true then ((impl_isNo.f (rd_T60 l0 x7).f1).bind fun r5 => (if r5 = true then ((impl_isNo.f (rd_T60 l0 x7).f2).bind fun r6 => (if r6 = true then ((impl_isNo.f (rd_T60 l0 x7).f3).bind fun r7 => (if r7 = true then ((impl_isNo.f (rd_T60 l0 x7).f5).bind fun r8 => (if r8 = true then ((impl_TradesOk.j1 k l0 x7 l0 x6 x7 (decide ((rd_T60 l0 x7).f1 = (rd_T60 l0 x7).f2)) ((rd_T60 l0 x7).f0) ((rd_T60 l0 x7).f1) ((rd_T60 l0 x7).f2) ((rd_T60 l0 x7).f3) ((rd_T60 l0 x7).f4) ((rd_T60 l0 x7).f5) ((rd_T60 l0 x7).f6) ((rd_T60 l0 x7).f7)).bind fun r => some (o93 l0 r)) else ((impl_TradesOk.j1 k l0 x7 l0 x6 x7 true ((rd_T60 l0 x7).f0) ((rd_T60 l0 x7).f1) ((rd_T60 l0 x7).f2) ((rd_T60 l0 x7).f3) ((rd_T60 l0 x7).f4) ((rd_T60 l0 x7).f5) ((rd_T60 l0 x7).f6) ((rd_T60 l0 x7).f7)).bind fun r => some (o93 l0 r)))) else ((impl_TradesOk.j1 k l0 x7 l0 x6 x7 true ((rd_T60 l0 x7).f0) ((rd_T60 l0 x7).f1) ((rd_T60 l0 x7).f2) ((rd_T60 l0 x7).f3) ((rd_T60 l0 x7).f4) ((rd_T60 l0 x7).f5) ((rd_T60 l0 x7).f6) ((rd_T60 l0 x7).f7)).bind fun r => some (o93 l0 r)))) else ((impl_TradesOk.j1 k l0 x7 l0 x6 x7 true ((rd_T60 l0 x7).f0) ((rd_T60 l0 x7).f1) ((rd_T60 l0 x7).f2) ((rd_T60 l0 x7).f3) ((rd_T60 l0 x7).f4) ((rd_T60 l0 x7).f5) ((rd_T60 l0 x7).f6) ((rd_T60 l0 x7).f7)).bind fun r => some (o93 l0 r)))) else ((impl_TradesOk.j1 k l0 x7 l0 x6 x7 true ((rd_T60 l0 x7).f0) ((rd_T60 l0 x7).f1) ((rd_T60 l0 x7).f2) ((rd_T60 l0 x7).f3) ((rd_T60 l0 x7).f4) ((rd_T60 l0 x7).f5) ((rd_T60 l0 x7).f6) ((rd_T60 l0 x7).f7)).bind fun r => some (o93 l0 r)))) else ((impl_TradesOk.j1 k l0 x7 l0 x6 x7 true ((rd_T60 l0 x7).f0) ((rd_T60 l0 x7).f1) ((rd_T60 l0 x7).f2) ((rd_T60 l0 x7).f3) ((rd_T60 l0 x7).f4) ((rd_T60 l0 x7).f5) ((rd_T60 l0 x7).f6) ((rd_T60 l0 x7).f7)).bind fun r => some (o93 l0 r)))) else none) else none) else (some (o93 l0 (decide ((l0.length : Int) ≤ 30)))))) (by kernel_rfl) (by rw [impl_TradesOk.l0]; exact lo_) _ h
  · cases h
theorem h93_1 : HH Tryz.prog O93 K93 Tryz.f93 [true, false, true, false, false, true, true, false, false, true, false, true] C93_1 := fun k st out h => by
  unfold C93_1 at h; split at h
  · rename_i x3 x6 x7 x46 l0 b1_0 b1_1 b1_2 b1_3 b1_4 b1_5 b1_6 b1_7
    exact Lo.of (b := (if x46 = true then (some (o93 l0 false)) else ((impl_in.f b1_4 1 1000000000000000).bind fun r14 => (if r14 = true then ((impl_in.f b1_6 0 1000000000000000).bind fun r15 => (if r15 = true then ((impl_in.f b1_7 1 3).bind fun r16 => (if r16 = true then (if x3 > 0 then (if 0 ≤ RowKit.wrap64 (x3 - 1) then (if RowKit.wrap64 (x3 - 1) < (l0.length : Int) then (if (rd_T60 l0 (RowKit.wrap64 (x3 - 1))).f0 ≥ b1_0 then (some (o93 l0 false)) else ((impl_TradesOk.l0 k l0 l0 x6 (RowKit.wrap64 (x7 + 1))).bind fun r => some (o93 l0 r))) else none) else none) else ((impl_TradesOk.l0 k l0 l0 x6 (RowKit.wrap64 (x7 + 1))).bind fun r => some (o93 l0 r))) else (some (o93 l0 false)))) else (some (o93 l0 false)))) else (some (o93 l0 false)))))) (by kernel_rfl) (by rw [impl_TradesOk.j1]; exact lo_) _ h
  · cases h
theorem d93 : Sound Tryz.prog q93 := fn_d (O := O93) (cs := K93) (cons_ d38 (cons_ d59 nil_)) mixed Tryz.func93 (cons_ (fun st => by show C93_0 0 st = none; unfold C93_0; split <;> rfl) (cons_ (fun st => by show C93_1 0 st = none; unfold C93_1; split <;> rfl) nil_)) (cons_ h93_0 (cons_ h93_1 nil_)) fun k a h Z K z e => by
  unfold Q93 at e; split at e
  · rename_i l0
    exact ent e (Lo.of (b := ((impl_TradesOk.l0 k l0 l0 ((l0.length : Int)) 0).bind fun r => some (o93 l0 r))) (by kernel_rfl) (by unfold impl_TradesOk.f; exact lo_))
  · cases e
def o138 (l0 : List S106) (r : Int) : Out Rw := ⟨[.c (.sc (.i .i64 r))], [.rows 0 (.e106 l0)]⟩
def Q138 : Mean Rw := fun k a h Z K => match a, h with
  | [.w (.c (.rw 0)), .w (.c (.sc (.i .i64 a1)))], [.rows 0 (.e106 l0)] => (impl_balsSum.f k l0 a1).bind fun r => K (o138 l0 r)
  | _, _ => none
def q138 : Cal Rw := ⟨138, false, Q138⟩
def O138 : List (Cal Rw) := []
def C138_0 : Nat → St Rw → Option (Out Rw) := fun k st => match st with
  | ⟨24, 1, 1, [(1, .w (.c (.sc (.i .i64 x1)))), (5, .w (.c (.sc (.i .i64 x5)))), (8, .w (.c (.rw 0))), (9, .w (.c (.sc (.i .i64 x9)))), (10, .w (.c (.sc (.i .i64 x10))))], [(0, .rows 0 (.e106 l0))]⟩ => (impl_balsSum.l0 k x1 x5 l0 x9 x10).bind fun r => some (o138 l0 r)
  | _ => none
def K138 : List (Cut Rw) := [⟨[false, true, false, true, true], [1, 5, 8, 9, 10], C138_0⟩]
theorem h138_0 : HH Tryz.prog O138 K138 Tryz.f138 [false, true, false, true, true] C138_0 := fun k st out h => by
  unfold C138_0 at h; split at h
  · rename_i x1 x5 x9 x10 l0
    exact Lo.of (b := (if x10 < x9 then (if 0 ≤ x10 then (if x10 < (l0.length : Int) then (if (rd_T106 l0 x10).f1 = x1 then ((impl_balsSum.l0 k x1 (RowKit.wrap64 (x5 + (rd_T106 l0 x10).f2)) l0 x9 (RowKit.wrap64 (x10 + 1))).bind fun r => some (o138 l0 r)) else ((impl_balsSum.l0 k x1 x5 l0 x9 (RowKit.wrap64 (x10 + 1))).bind fun r => some (o138 l0 r))) else none) else none) else (some (o138 l0 x5)))) (by kernel_rfl) (by rw [impl_balsSum.l0]; exact lo_) _ h
  · cases h
theorem d138 : Sound Tryz.prog q138 := fn_d (O := O138) (cs := K138) nil_ mixed Tryz.func138 (cons_ (fun st => by show C138_0 0 st = none; unfold C138_0; split <;> rfl) nil_) (cons_ h138_0 nil_) fun k a h Z K z e => by
  unfold Q138 at e; split at e
  · rename_i a1 l0
    exact ent e (Lo.of (b := ((impl_balsSum.l0 k a1 0 l0 ((l0.length : Int)) 0).bind fun r => some (o138 l0 r))) (by kernel_rfl) (by unfold impl_balsSum.f; exact lo_))
  · cases e
def o94 (l0_0 : List S80) (l0_1 : List S84) (l0_2 : List S106) (l0_3 : List S110) (l0_4 : List S60) (r : Bool) : Out Rw := ⟨[.c (.sc (.b r))], [.rows 0 (.e80 l0_0), .rows 0 (.e84 l0_1), .rows 0 (.e106 l0_2), .rows 0 (.e110 l0_3), .rows 0 (.e60 l0_4)]⟩
def Q94 : Mean Rw := fun k a h Z K => match a, h with
  | [.w (.ag [.rw 0, .rw 1, .rw 2, .rw 3, .rw 4, .sc (.i .i64 a0_5)])], [.rows 0 (.e80 l0_0), .rows 0 (.e84 l0_1), .rows 0 (.e106 l0_2), .rows 0 (.e110 l0_3), .rows 0 (.e60 l0_4)] => (impl_balsRight.f k l0_0 l0_1 l0_2 l0_3 l0_4 a0_5).bind fun r => K (o94 l0_0 l0_1 l0_2 l0_3 l0_4 r)
  | _, _ => none
def q94 : Cal Rw := ⟨94, false, Q94⟩
def O94 : List (Cal Rw) := [q108, q110, q138]
def C94_0 : Nat → St Rw → Option (Out Rw) := fun k st => match st with
  | ⟨46, 5, 6, [(1, .pt 5 0), (7, .w (.c (.rw 2))), (8, .w (.c (.sc (.i .i64 x8)))), (9, .w (.c (.sc (.i .i64 x9))))], [(0, .rows 0 (.e80 l0_0)), (1, .rows 0 (.e84 l0_1)), (2, .rows 0 (.e106 l0_2)), (3, .rows 0 (.e110 l0_3)), (4, .rows 0 (.e60 l0_4)), (5, .box 36 [.rw 0, .rw 1, .rw 2, .rw 3, .rw 4, .sc (.i .i64 b5_5)])]⟩ => (impl_balsRight.l0 k l0_2 x8 x9 l0_0 l0_1 l0_2 l0_3 l0_4 b5_5).bind fun r => some (o94 l0_0 l0_1 l0_2 l0_3 l0_4 r)
  | _ => none
def K94 : List (Cut Rw) := [⟨[false, true, false, true], [1, 7, 8, 9], C94_0⟩]
theorem h94_0 : HH Tryz.prog O94 K94 Tryz.f94 [false, true, false, true] C94_0 := fun k st out h => by
  unfold C94_0 at h; split at h
  · rename_i x8 x9 l0_0 l0_1 l0_2 l0_3 l0_4 b5_5
    exact Lo.of (b := (if x9 < x8 then (if 0 ≤ x9 then (if x9 < (l0_2.length : Int) then ((impl_accountKind.f k l0_0 (rd_T106 l0_2 x9).f0).bind fun r9 => (if r9 = 0 then (some (o94 l0_0 l0_1 l0_2 l0_3 l0_4 false)) else ((impl_instrKind.f k l0_1 (rd_T106 l0_2 x9).f1).bind fun r10 => (if r10 = 0 then (some (o94 l0_0 l0_1 l0_2 l0_3 l0_4 false)) else (if r9 = 1 then (if (rd_T106 l0_2 x9).f2 < 0 then (some (o94 l0_0 l0_1 l0_2 l0_3 l0_4 false)) else ((impl_balsSum.f k l0_2 (rd_T106 l0_2 x9).f1).bind fun r11 => (if r11 = 0 then ((impl_balsRight.l0 k l0_2 x8 (RowKit.wrap64 (x9 + 1)) l0_0 l0_1 l0_2 l0_3 l0_4 b5_5).bind fun r => some (o94 l0_0 l0_1 l0_2 l0_3 l0_4 r)) else (some (o94 l0_0 l0_1 l0_2 l0_3 l0_4 false))))) else ((impl_balsSum.f k l0_2 (rd_T106 l0_2 x9).f1).bind fun r11 => (if r11 = 0 then ((impl_balsRight.l0 k l0_2 x8 (RowKit.wrap64 (x9 + 1)) l0_0 l0_1 l0_2 l0_3 l0_4 b5_5).bind fun r => some (o94 l0_0 l0_1 l0_2 l0_3 l0_4 r)) else (some (o94 l0_0 l0_1 l0_2 l0_3 l0_4 false))))))))) else none) else none) else (some (o94 l0_0 l0_1 l0_2 l0_3 l0_4 true)))) (by kernel_rfl) (by rw [impl_balsRight.l0]; exact lo_) _ h
  · cases h
theorem d94 : Sound Tryz.prog q94 := fn_d (O := O94) (cs := K94) (cons_ d108 (cons_ d110 (cons_ d138 nil_))) mixed Tryz.func94 (cons_ (fun st => by show C94_0 0 st = none; unfold C94_0; split <;> rfl) nil_) (cons_ h94_0 nil_) fun k a h Z K z e => by
  unfold Q94 at e; split at e
  · rename_i a0_5 l0_0 l0_1 l0_2 l0_3 l0_4
    exact ent e (Lo.of (b := ((impl_balsRight.l0 k l0_2 ((l0_2.length : Int)) 0 l0_0 l0_1 l0_2 l0_3 l0_4 a0_5).bind fun r => some (o94 l0_0 l0_1 l0_2 l0_3 l0_4 r))) (by kernel_rfl) (by unfold impl_balsRight.f; exact lo_))
  · cases e
end
end Go.Proofs.YtmfgajbkcnlkcaaGreat.AI
namespace Go.Proofs.YtmfgajbkcnlkcaaGreat.P
open Go Go.Proofs.YtmfgajbkcnlkcaaGreat.AI Go.RowKit Go.Proofs.YtmfgajbkcnlkcaaGreatW.PrintWords Go.Proofs.YtmfgajbkcnlkcaaGreat.P
set_option linter.unusedVariables false
set_option linter.all false
set_option maxRecDepth 100000
set_option maxHeartbeats 4000000
noncomputable section
theorem impl_isLot.calls (a0_0 : Int) (a0_1 : Int) (a0_2 : Int) (a0_3 : Int) (a0_4 : Int) (a1 : Int) (a2 : Int) (r : Bool) (w : World) (h : impl_isLot.f a0_0 a0_1 a0_2 a0_3 a0_4 a1 a2 = some r) :
    Calls Tryz.prog 171 #[.agg #[.int .i64 a0_0, .int .i64 a0_1, .int .i64 a0_2, .int .i64 a0_3, .int .i64 a0_4], .int .i64 a1, .int .i64 a2] w fun e w' => e = .returned (.bool r) ∧ Below w.heap.size w w' := by
  let G : Nat → Value := fun i => match i with
    | _ => undef
  have hA : ArgsOK (R := Rw) Tryz.prog w G [.w (.ag [.sc (.i .i64 a0_0), .sc (.i .i64 a0_1), .sc (.i .i64 a0_2), .sc (.i .i64 a0_3), .sc (.i .i64 a0_4)]), .w (.c (.sc (.i .i64 a1))), .w (.c (.sc (.i .i64 a2)))] [] := args_ro (by simp [isRo]) (by simp [idsV, idsW, idsC, EpOK]) fun i b hb => by
    match i, hb with
    | _, hb => simp at hb
  have hq := calls_ro (out := o171 r) (by simp [isRo]) (by simp [o171, idsW, idsC]) (good_of d171 (k := 0) (by show (impl_isLot.f a0_0 a0_1 a0_2 a0_3 a0_4 a1 a2).bind _ = _; rw [h]; rfl)) hA
  have hv : (List.map (concV G) [.w (.ag [.sc (.i .i64 a0_0), .sc (.i .i64 a0_1), .sc (.i .i64 a0_2), .sc (.i .i64 a0_3), .sc (.i .i64 a0_4)]), .w (.c (.sc (.i .i64 a1))), .w (.c (.sc (.i .i64 a2)))]).toArray = #[.agg #[.int .i64 a0_0, .int .i64 a0_1, .int .i64 a0_2, .int .i64 a0_3, .int .i64 a0_4], .int .i64 a1, .int .i64 a2] := by simp [concV, concW, conc, Sc.v]
  rw [hv] at hq
  exact hq
theorem impl_lotBefore.calls (k : Nat) (a0_0 : Int) (a0_1 : Int) (a0_2 : Int) (a0_3 : Int) (a0_4 : Int) (a1_0 : Int) (a1_1 : Int) (a1_2 : Int) (a1_3 : Int) (a1_4 : Int) (r : Int) (w : World) (h : impl_lotBefore.f k a0_0 a0_1 a0_2 a0_3 a0_4 a1_0 a1_1 a1_2 a1_3 a1_4 = some r) :
    Calls Tryz.prog 133 #[.agg #[.int .i64 a0_0, .int .i64 a0_1, .int .i64 a0_2, .int .i64 a0_3, .int .i64 a0_4], .agg #[.int .i64 a1_0, .int .i64 a1_1, .int .i64 a1_2, .int .i64 a1_3, .int .i64 a1_4]] w fun e w' => e = .returned (.int .i64 r) ∧ Below w.heap.size w w' := by
  let G : Nat → Value := fun i => match i with
    | _ => undef
  have hA : ArgsOK (R := Rw) Tryz.prog w G [.w (.ag [.sc (.i .i64 a0_0), .sc (.i .i64 a0_1), .sc (.i .i64 a0_2), .sc (.i .i64 a0_3), .sc (.i .i64 a0_4)]), .w (.ag [.sc (.i .i64 a1_0), .sc (.i .i64 a1_1), .sc (.i .i64 a1_2), .sc (.i .i64 a1_3), .sc (.i .i64 a1_4)])] [] := args_ro (by simp [isRo]) (by simp [idsV, idsW, idsC, EpOK]) fun i b hb => by
    match i, hb with
    | _, hb => simp at hb
  have hq := calls_ro (out := o133 r) (by simp [isRo]) (by simp [o133, idsW, idsC]) (good_of d133 (k := k) (by show (impl_lotBefore.f k a0_0 a0_1 a0_2 a0_3 a0_4 a1_0 a1_1 a1_2 a1_3 a1_4).bind _ = _; rw [h]; rfl)) hA
  have hv : (List.map (concV G) [.w (.ag [.sc (.i .i64 a0_0), .sc (.i .i64 a0_1), .sc (.i .i64 a0_2), .sc (.i .i64 a0_3), .sc (.i .i64 a0_4)]), .w (.ag [.sc (.i .i64 a1_0), .sc (.i .i64 a1_1), .sc (.i .i64 a1_2), .sc (.i .i64 a1_3), .sc (.i .i64 a1_4)])]).toArray = #[.agg #[.int .i64 a0_0, .int .i64 a0_1, .int .i64 a0_2, .int .i64 a0_3, .int .i64 a0_4], .agg #[.int .i64 a1_0, .int .i64 a1_1, .int .i64 a1_2, .int .i64 a1_3, .int .i64 a1_4]] := by simp [concV, concW, conc, Sc.v]
  rw [hv] at hq
  exact hq
theorem impl_lotForm.calls (a0_0 : Int) (a0_1 : Int) (a0_2 : Int) (a0_3 : Int) (a0_4 : Int) (r : Bool) (w : World) (h : impl_lotForm.f a0_0 a0_1 a0_2 a0_3 a0_4 = some r) :
    Calls Tryz.prog 132 #[.agg #[.int .i64 a0_0, .int .i64 a0_1, .int .i64 a0_2, .int .i64 a0_3, .int .i64 a0_4]] w fun e w' => e = .returned (.bool r) ∧ Below w.heap.size w w' := by
  let G : Nat → Value := fun i => match i with
    | _ => undef
  have hA : ArgsOK (R := Rw) Tryz.prog w G [.w (.ag [.sc (.i .i64 a0_0), .sc (.i .i64 a0_1), .sc (.i .i64 a0_2), .sc (.i .i64 a0_3), .sc (.i .i64 a0_4)])] [] := args_ro (by simp [isRo]) (by simp [idsV, idsW, idsC, EpOK]) fun i b hb => by
    match i, hb with
    | _, hb => simp at hb
  have hq := calls_ro (out := o132 r) (by simp [isRo]) (by simp [o132, idsW, idsC]) (good_of d132 (k := 0) (by show (impl_lotForm.f a0_0 a0_1 a0_2 a0_3 a0_4).bind _ = _; rw [h]; rfl)) hA
  have hv : (List.map (concV G) [.w (.ag [.sc (.i .i64 a0_0), .sc (.i .i64 a0_1), .sc (.i .i64 a0_2), .sc (.i .i64 a0_3), .sc (.i .i64 a0_4)])]).toArray = #[.agg #[.int .i64 a0_0, .int .i64 a0_1, .int .i64 a0_2, .int .i64 a0_3, .int .i64 a0_4]] := by simp [concV, concW, conc, Sc.v]
  rw [hv] at hq
  exact hq
theorem impl_sumLots.calls (k : Nat) (A0 : Option Addr) (c0 : Nat) (l0 : List (S110)) (r1 : Int) (r2 : Int) (w : World) (hr0 : Kd.C k110 w A0 l0.length l0) (hc0 : l0.length ≤ c0) (h : impl_sumLots.f k l0 = some (r1, r2)) :
    Calls Tryz.prog 136 #[.slice A0 l0.length c0] w fun e w' => e = .returned (.tuple #[.int .i64 r1, .int .i64 r2]) ∧ Below w.heap.size w w' := by
  let G : Nat → Value := fun i => match i with
    | 0 => .slice A0 l0.length c0
    | _ => undef
  have hA : ArgsOK (R := Rw) Tryz.prog w G [.w (.c (.rw 0))] [.rows 0 (.e110 l0)] := args_ro (by simp [isRo]) (by simp [idsV, idsW, idsC, EpOK]) fun i b hb => by
    match i, hb with
    | 0, hb => obtain rfl := Option.some.inj hb; exact ro110.2 ⟨_, _, rfl, hc0, hr0⟩
    | _ + 1, hb => simp at hb
  have hq := calls_ro (out := o136 l0 (r1, r2)) (by simp [isRo]) (by simp [o136, idsW, idsC]) (good_of d136 (k := k) (by show (impl_sumLots.f k l0).bind _ = _; rw [h]; rfl)) hA
  have hv : (List.map (concV G) [.w (.c (.rw 0))]).toArray = #[.slice A0 l0.length c0] := by simp [concV, concW, conc, Sc.v, G]
  rw [hv] at hq
  exact hq
theorem impl_accountKind.calls (k : Nat) (A0 : Option Addr) (c0 : Nat) (l0 : List (S80)) (a1 : Int) (r : Int) (w : World) (hr0 : Kd.C k80 w A0 l0.length l0) (hc0 : l0.length ≤ c0) (h : impl_accountKind.f k l0 a1 = some r) :
    Calls Tryz.prog 108 #[.slice A0 l0.length c0, .int .i64 a1] w fun e w' => e = .returned (.int .i64 r) ∧ Below w.heap.size w w' := by
  let G : Nat → Value := fun i => match i with
    | 0 => .slice A0 l0.length c0
    | _ => undef
  have hA : ArgsOK (R := Rw) Tryz.prog w G [.w (.c (.rw 0)), .w (.c (.sc (.i .i64 a1)))] [.rows 0 (.e80 l0)] := args_ro (by simp [isRo]) (by simp [idsV, idsW, idsC, EpOK]) fun i b hb => by
    match i, hb with
    | 0, hb => obtain rfl := Option.some.inj hb; exact ro80.2 ⟨_, _, rfl, hc0, hr0⟩
    | _ + 1, hb => simp at hb
  have hq := calls_ro (out := o108 l0 r) (by simp [isRo]) (by simp [o108, idsW, idsC]) (good_of d108 (k := k) (by show (impl_accountKind.f k l0 a1).bind _ = _; rw [h]; rfl)) hA
  have hv : (List.map (concV G) [.w (.c (.rw 0)), .w (.c (.sc (.i .i64 a1)))]).toArray = #[.slice A0 l0.length c0, .int .i64 a1] := by simp [concV, concW, conc, Sc.v, G]
  rw [hv] at hq
  exact hq
theorem impl_instrKind.calls (k : Nat) (A0 : Option Addr) (c0 : Nat) (l0 : List (S84)) (a1 : Int) (r : Int) (w : World) (hr0 : Kd.C k84 w A0 l0.length l0) (hc0 : l0.length ≤ c0) (h : impl_instrKind.f k l0 a1 = some r) :
    Calls Tryz.prog 110 #[.slice A0 l0.length c0, .int .i64 a1] w fun e w' => e = .returned (.int .i64 r) ∧ Below w.heap.size w w' := by
  let G : Nat → Value := fun i => match i with
    | 0 => .slice A0 l0.length c0
    | _ => undef
  have hA : ArgsOK (R := Rw) Tryz.prog w G [.w (.c (.rw 0)), .w (.c (.sc (.i .i64 a1)))] [.rows 0 (.e84 l0)] := args_ro (by simp [isRo]) (by simp [idsV, idsW, idsC, EpOK]) fun i b hb => by
    match i, hb with
    | 0, hb => obtain rfl := Option.some.inj hb; exact ro84.2 ⟨_, _, rfl, hc0, hr0⟩
    | _ + 1, hb => simp at hb
  have hq := calls_ro (out := o110 l0 r) (by simp [isRo]) (by simp [o110, idsW, idsC]) (good_of d110 (k := k) (by show (impl_instrKind.f k l0 a1).bind _ = _; rw [h]; rfl)) hA
  have hv : (List.map (concV G) [.w (.c (.rw 0)), .w (.c (.sc (.i .i64 a1)))]).toArray = #[.slice A0 l0.length c0, .int .i64 a1] := by simp [concV, concW, conc, Sc.v, G]
  rw [hv] at hq
  exact hq
theorem impl_balAt.calls (k : Nat) (A0 : Option Addr) (c0 : Nat) (l0 : List (S106)) (a1 : Int) (a2 : Int) (r1 : Int) (r2 : Bool) (w : World) (hr0 : Kd.C k106 w A0 l0.length l0) (hc0 : l0.length ≤ c0) (h : impl_balAt.f k l0 a1 a2 = some (r1, r2)) :
    Calls Tryz.prog 172 #[.slice A0 l0.length c0, .int .i64 a1, .int .i64 a2] w fun e w' => e = .returned (.tuple #[.int .i64 r1, .bool r2]) ∧ Below w.heap.size w w' := by
  let G : Nat → Value := fun i => match i with
    | 0 => .slice A0 l0.length c0
    | _ => undef
  have hA : ArgsOK (R := Rw) Tryz.prog w G [.w (.c (.rw 0)), .w (.c (.sc (.i .i64 a1))), .w (.c (.sc (.i .i64 a2)))] [.rows 0 (.e106 l0)] := args_ro (by simp [isRo]) (by simp [idsV, idsW, idsC, EpOK]) fun i b hb => by
    match i, hb with
    | 0, hb => obtain rfl := Option.some.inj hb; exact ro106.2 ⟨_, _, rfl, hc0, hr0⟩
    | _ + 1, hb => simp at hb
  have hq := calls_ro (out := o172 l0 (r1, r2)) (by simp [isRo]) (by simp [o172, idsW, idsC]) (good_of d172 (k := k) (by show (impl_balAt.f k l0 a1 a2).bind _ = _; rw [h]; rfl)) hA
  have hv : (List.map (concV G) [.w (.c (.rw 0)), .w (.c (.sc (.i .i64 a1))), .w (.c (.sc (.i .i64 a2)))]).toArray = #[.slice A0 l0.length c0, .int .i64 a1, .int .i64 a2] := by simp [concV, concW, conc, Sc.v, G]
  rw [hv] at hq
  exact hq
theorem impl_legsForm_1.calls (a0_0 : Int) (a0_1 : Int) (a0_2 : Int) (r : Bool) (w : World) (h : impl_legsForm_1.f a0_0 a0_1 a0_2 = some r) :
    Calls Tryz.prog 176 #[.agg #[.int .i64 a0_0, .int .i64 a0_1, .int .i64 a0_2]] w fun e w' => e = .returned (.bool r) ∧ Below w.heap.size w w' := by
  let G : Nat → Value := fun i => match i with
    | _ => undef
  have hA : ArgsOK (R := Rw) Tryz.prog w G [.w (.ag [.sc (.i .i64 a0_0), .sc (.i .i64 a0_1), .sc (.i .i64 a0_2)])] [] := args_ro (by simp [isRo]) (by simp [idsV, idsW, idsC, EpOK]) fun i b hb => by
    match i, hb with
    | _, hb => simp at hb
  have hq := calls_ro (out := o176 r) (by simp [isRo]) (by simp [o176, idsW, idsC]) (good_of d176 (k := 0) (by show (impl_legsForm_1.f a0_0 a0_1 a0_2).bind _ = _; rw [h]; rfl)) hA
  have hv : (List.map (concV G) [.w (.ag [.sc (.i .i64 a0_0), .sc (.i .i64 a0_1), .sc (.i .i64 a0_2)])]).toArray = #[.agg #[.int .i64 a0_0, .int .i64 a0_1, .int .i64 a0_2]] := by simp [concV, concW, conc, Sc.v]
  rw [hv] at hq
  exact hq
end
end Go.Proofs.YtmfgajbkcnlkcaaGreat.P
