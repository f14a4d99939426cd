/- What the law FnExactTradesOpen leans on, cut out of this repo's own texts by a program of this repo: plain functions, the walks that tie the Go calls to them, the law over lists and numbers, and the row. -/
import Derived.Test.YtmfgajbkcnlkcaaZFnExactTradesOpen0
import Derived.Test.YtmfgajbkcnlkcaaProg
import Derived.Below
import Derived.Deep.Draws
import Derived.Deep.AppendLies
import Derived.Maps.AppendAt
import Derived.OwnWalk
import Derived.Laws.BytesArg
import Derived.Laws.MakeOwn
import Derived.Laws.OwnMore
import Derived.Deep.OwnRows
import Derived.Tactics
import Derived.Lib.ConvBytes
import Derived.Laws.Slices
import Derived.WalkKit
import Derived.KernelRfl
import Derived.RowKit3
import Derived.Deep.LoopGhost
import Derived.Deep.QuietTactic
import Derived.BigQuiet
import Derived.WideLaws
import Derived.Deep.DeepCutAuto
import Derived.Deep.CutBlock
import Derived.Deep.RegionHeld3
import Derived.Laws.Rows
import Derived.Lib.AppendStr
import Derived.ArgAppend
import Derived.Laws.IdiomCopy
import Derived.OrdersHeld
import Derived.Laws.BitsLemmas
import Derived.RowKit
import Derived.Lib.SliceRun
import Derived.Shelf.RegionOpenPlain
set_option maxHeartbeats 8000000
set_option maxRecDepth 100000
namespace Go.Proofs.Ytmfgajbkcnlkcaa.P
open Go.RowKit Go.Proofs.YtmfgajbkcnlkcaaW.PrintWords Go.Proofs.YtmfgajbkcnlkcaaW.PrintLast Go.Proofs.YtmfgajbkcnlkcaaW.PrintMore
attribute [local go_sem] max2_int min2_int max_two min_two max_three min_three max_four min_four   -- for this text's walks alone
set_option linter.unusedVariables false
set_option linter.unusedSimpArgs false
def errW : Option Int → Value
 | none => .nilIface
 | some c => .iface 0 (.int .i64 c)
theorem errW_none : errW none = .nilIface := rfl
theorem errW_some (c : Int) : errW (some c) = .iface 0 (.int .i64 c) := rfl
theorem info96 : (Try.prog.info? 96).map (fun i => (i.zero, i.size, i.bytes)) = some (some (.agg #[(.int .i64 0), (.int .i64 0), (.int .i64 0), (.int .i64 0), (.int .i64 0)]), 5, 40) := by kernel_rfl
structure S50 where
 f0 : Int
 f1 : Int
 f2 : Int
 f3 : Int
 f4 : Int
 f5 : Int
 f6 : Int
 f7 : Int
def z50 : S50 := ⟨(0 : Int), (0 : Int), (0 : Int), (0 : Int), (0 : Int), (0 : Int), (0 : Int), (0 : Int)⟩
def k50 : Kd S50 := Kd.iso (Kd.pair (Kd.int .i64) (Kd.pair (Kd.int .i64) (Kd.pair (Kd.int .i64) (Kd.pair (Kd.int .i64) (Kd.pair (Kd.int .i64) (Kd.pair (Kd.int .i64) (Kd.pair (Kd.int .i64) (Kd.int .i64)))))))) (fun x : S50 => (x.f0, x.f1, x.f2, x.f3, x.f4, x.f5, x.f6, x.f7))
theorem k50_open {w : World} {x : S50} {cs : List Value} (h : k50.K w x cs) : cs = [.int .i64 x.f0, .int .i64 x.f1, .int .i64 x.f2, .int .i64 x.f3, .int .i64 x.f4, .int .i64 x.f5, .int .i64 x.f6, .int .i64 x.f7] := by
 obtain ⟨_, _, rfl, rfl, ⟨_, _, rfl, rfl, ⟨_, _, rfl, rfl, ⟨_, _, rfl, rfl, ⟨_, _, rfl, rfl, ⟨_, _, rfl, rfl, ⟨_, _, rfl, rfl, rfl⟩⟩⟩⟩⟩⟩⟩ := h
 exact rfl
theorem k50_mk (w : World) (x : S50)  : k50.K w x [.int .i64 x.f0, .int .i64 x.f1, .int .i64 x.f2, .int .i64 x.f3, .int .i64 x.f4, .int .i64 x.f5, .int .i64 x.f6, .int .i64 x.f7] := ⟨[.int .i64 x.f0], [.int .i64 x.f1, .int .i64 x.f2, .int .i64 x.f3, .int .i64 x.f4, .int .i64 x.f5, .int .i64 x.f6, .int .i64 x.f7], rfl, rfl, ⟨[.int .i64 x.f1], [.int .i64 x.f2, .int .i64 x.f3, .int .i64 x.f4, .int .i64 x.f5, .int .i64 x.f6, .int .i64 x.f7], rfl, rfl, ⟨[.int .i64 x.f2], [.int .i64 x.f3, .int .i64 x.f4, .int .i64 x.f5, .int .i64 x.f6, .int .i64 x.f7], rfl, rfl, ⟨[.int .i64 x.f3], [.int .i64 x.f4, .int .i64 x.f5, .int .i64 x.f6, .int .i64 x.f7], rfl, rfl, ⟨[.int .i64 x.f4], [.int .i64 x.f5, .int .i64 x.f6, .int .i64 x.f7], rfl, rfl, ⟨[.int .i64 x.f5], [.int .i64 x.f6, .int .i64 x.f7], rfl, rfl, ⟨[.int .i64 x.f6], [.int .i64 x.f7], rfl, rfl, rfl⟩⟩⟩⟩⟩⟩⟩
def rd_T50 (xs : List S50) (i : Int) : S50 := xs.getD i.toNat z50
theorem at_T50 {w : World} {A : Option Addr} {n : Nat} {xs : List S50} (h : Kd.C k50 w A n xs) (i : Int) (h0 : 0 ≤ i) (h1 : i < n) : ∃ ad , A = some ad ∧ w.cell? (ad.add (i.toNat * 8)) = some (.int .i64 (rd_T50 xs i).f0) ∧ w.cell? ⟨(ad.add (i.toNat * 8)).block, (ad.add (i.toNat * 8)).off + 1, none⟩ = some (.int .i64 (rd_T50 xs i).f1) ∧ w.cell? ⟨(ad.add (i.toNat * 8)).block, (ad.add (i.toNat * 8)).off + 2, none⟩ = some (.int .i64 (rd_T50 xs i).f2) ∧ w.cell? ⟨(ad.add (i.toNat * 8)).block, (ad.add (i.toNat * 8)).off + 3, none⟩ = some (.int .i64 (rd_T50 xs i).f3) ∧ w.cell? ⟨(ad.add (i.toNat * 8)).block, (ad.add (i.toNat * 8)).off + 4, none⟩ = some (.int .i64 (rd_T50 xs i).f4) ∧ w.cell? ⟨(ad.add (i.toNat * 8)).block, (ad.add (i.toNat * 8)).off + 5, none⟩ = some (.int .i64 (rd_T50 xs i).f5) ∧ w.cell? ⟨(ad.add (i.toNat * 8)).block, (ad.add (i.toNat * 8)).off + 6, none⟩ = some (.int .i64 (rd_T50 xs i).f6) ∧ w.cell? ⟨(ad.add (i.toNat * 8)).block, (ad.add (i.toNat * 8)).off + 7, none⟩ = some (.int .i64 (rd_T50 xs i).f7) := by
 obtain ⟨ad, c, e, _, hK, hc0⟩ := Kd.C_get h z50 i h0 h1
 have hc : ∀ j u, c[j]? = some u → w.cell? (ad.add (i.toNat * 8 + j)) = some u := hc0
 obtain rfl := k50_open hK
 exact ⟨ad, e, hc 0 _ rfl, by rw [← add_field _ _ 1 (by omega)]; exact hc 1 _ rfl, by rw [← add_field _ _ 2 (by omega)]; exact hc 2 _ rfl, by rw [← add_field _ _ 3 (by omega)]; exact hc 3 _ rfl, by rw [← add_field _ _ 4 (by omega)]; exact hc 4 _ rfl, by rw [← add_field _ _ 5 (by omega)]; exact hc 5 _ rfl, by rw [← add_field _ _ 6 (by omega)]; exact hc 6 _ rfl, by rw [← add_field _ _ 7 (by omega)]; exact hc 7 _ rfl⟩
structure S88 where
 f0 : Int
 f1 : Int
def z88 : S88 := ⟨(0 : Int), (0 : Int)⟩
def k88 : Kd S88 := Kd.iso (Kd.pair (Kd.int .i64) (Kd.int .i64)) (fun x : S88 => (x.f0, x.f1))
theorem k88_open {w : World} {x : S88} {cs : List Value} (h : k88.K w x cs) : cs = [.int .i64 x.f0, .int .i64 x.f1] := by
 obtain ⟨_, _, rfl, rfl, rfl⟩ := h
 exact rfl
theorem k88_mk (w : World) (x : S88)  : k88.K w x [.int .i64 x.f0, .int .i64 x.f1] := ⟨[.int .i64 x.f0], [.int .i64 x.f1], rfl, rfl, rfl⟩
def rd_T88 (xs : List S88) (i : Int) : S88 := xs.getD i.toNat z88
theorem at_T88 {w : World} {A : Option Addr} {n : Nat} {xs : List S88} (h : Kd.C k88 w A n xs) (i : Int) (h0 : 0 ≤ i) (h1 : i < n) : ∃ ad , A = some ad ∧ w.cell? (ad.add (i.toNat * 2)) = some (.int .i64 (rd_T88 xs i).f0) ∧ w.cell? ⟨(ad.add (i.toNat * 2)).block, (ad.add (i.toNat * 2)).off + 1, none⟩ = some (.int .i64 (rd_T88 xs i).f1) := by
 obtain ⟨ad, c, e, _, hK, hc0⟩ := Kd.C_get h z88 i h0 h1
 have hc : ∀ j u, c[j]? = some u → w.cell? (ad.add (i.toNat * 2 + j)) = some u := hc0
 obtain rfl := k88_open hK
 exact ⟨ad, e, hc 0 _ rfl, by rw [← add_field _ _ 1 (by omega)]; exact hc 1 _ rfl⟩
structure S90 where
 f0 : Int
 f1 : Int
def z90 : S90 := ⟨(0 : Int), (0 : Int)⟩
def k90 : Kd S90 := Kd.iso (Kd.pair (Kd.int .i64) (Kd.int .i64)) (fun x : S90 => (x.f0, x.f1))
theorem k90_open {w : World} {x : S90} {cs : List Value} (h : k90.K w x cs) : cs = [.int .i64 x.f0, .int .i64 x.f1] := by
 obtain ⟨_, _, rfl, rfl, rfl⟩ := h
 exact rfl
theorem k90_mk (w : World) (x : S90)  : k90.K w x [.int .i64 x.f0, .int .i64 x.f1] := ⟨[.int .i64 x.f0], [.int .i64 x.f1], rfl, rfl, rfl⟩
def rd_T90 (xs : List S90) (i : Int) : S90 := xs.getD i.toNat z90
theorem at_T90 {w : World} {A : Option Addr} {n : Nat} {xs : List S90} (h : Kd.C k90 w A n xs) (i : Int) (h0 : 0 ≤ i) (h1 : i < n) : ∃ ad , A = some ad ∧ w.cell? (ad.add (i.toNat * 2)) = some (.int .i64 (rd_T90 xs i).f0) ∧ w.cell? ⟨(ad.add (i.toNat * 2)).block, (ad.add (i.toNat * 2)).off + 1, none⟩ = some (.int .i64 (rd_T90 xs i).f1) := by
 obtain ⟨ad, c, e, _, hK, hc0⟩ := Kd.C_get h z90 i h0 h1
 have hc : ∀ j u, c[j]? = some u → w.cell? (ad.add (i.toNat * 2 + j)) = some u := hc0
 obtain rfl := k90_open hK
 exact ⟨ad, e, hc 0 _ rfl, by rw [← add_field _ _ 1 (by omega)]; exact hc 1 _ rfl⟩
structure S93 where
 f0 : Int
 f1 : Int
 f2 : Int
def z93 : S93 := ⟨(0 : Int), (0 : Int), (0 : Int)⟩
def k93 : Kd S93 := Kd.iso (Kd.pair (Kd.int .i64) (Kd.pair (Kd.int .i64) (Kd.int .i64))) (fun x : S93 => (x.f0, x.f1, x.f2))
theorem k93_open {w : World} {x : S93} {cs : List Value} (h : k93.K w x cs) : cs = [.int .i64 x.f0, .int .i64 x.f1, .int .i64 x.f2] := by
 obtain ⟨_, _, rfl, rfl, ⟨_, _, rfl, rfl, rfl⟩⟩ := h
 exact rfl
theorem k93_mk (w : World) (x : S93)  : k93.K w x [.int .i64 x.f0, .int .i64 x.f1, .int .i64 x.f2] := ⟨[.int .i64 x.f0], [.int .i64 x.f1, .int .i64 x.f2], rfl, rfl, ⟨[.int .i64 x.f1], [.int .i64 x.f2], rfl, rfl, rfl⟩⟩
def rd_T93 (xs : List S93) (i : Int) : S93 := xs.getD i.toNat z93
structure S96 where
 f0 : Int
 f1 : Int
 f2 : Int
 f3 : Int
 f4 : Int
def z96 : S96 := ⟨(0 : Int), (0 : Int), (0 : Int), (0 : Int), (0 : Int)⟩
def k96 : Kd S96 := Kd.iso (Kd.pair (Kd.int .i64) (Kd.pair (Kd.int .i64) (Kd.pair (Kd.int .i64) (Kd.pair (Kd.int .i64) (Kd.int .i64))))) (fun x : S96 => (x.f0, x.f1, x.f2, x.f3, x.f4))
theorem k96_open {w : World} {x : S96} {cs : List Value} (h : k96.K w x cs) : cs = [.int .i64 x.f0, .int .i64 x.f1, .int .i64 x.f2, .int .i64 x.f3, .int .i64 x.f4] := by
 obtain ⟨_, _, rfl, rfl, ⟨_, _, rfl, rfl, ⟨_, _, rfl, rfl, ⟨_, _, rfl, rfl, rfl⟩⟩⟩⟩ := h
 exact rfl
theorem k96_openM {w : World} {base : Nat} {ok : Nat → Prop} {x : S96} {cs : List Value} (h : k96.M w base ok x cs) : cs = [.int .i64 x.f0, .int .i64 x.f1, .int .i64 x.f2, .int .i64 x.f3, .int .i64 x.f4] := by
 obtain ⟨_, _, rfl, rfl, ⟨_, _, rfl, rfl, ⟨_, _, rfl, rfl, ⟨_, _, rfl, rfl, rfl⟩⟩⟩⟩ := h
 exact rfl
theorem k96_mk (w : World) (x : S96)  : k96.K w x [.int .i64 x.f0, .int .i64 x.f1, .int .i64 x.f2, .int .i64 x.f3, .int .i64 x.f4] := ⟨[.int .i64 x.f0], [.int .i64 x.f1, .int .i64 x.f2, .int .i64 x.f3, .int .i64 x.f4], rfl, rfl, ⟨[.int .i64 x.f1], [.int .i64 x.f2, .int .i64 x.f3, .int .i64 x.f4], rfl, rfl, ⟨[.int .i64 x.f2], [.int .i64 x.f3, .int .i64 x.f4], rfl, rfl, ⟨[.int .i64 x.f3], [.int .i64 x.f4], rfl, rfl, rfl⟩⟩⟩⟩
theorem k96_mkM (w : World) (base : Nat) (ok : Nat → Prop) (x : S96)  : k96.M w base ok x [.int .i64 x.f0, .int .i64 x.f1, .int .i64 x.f2, .int .i64 x.f3, .int .i64 x.f4] := ⟨[.int .i64 x.f0], [.int .i64 x.f1, .int .i64 x.f2, .int .i64 x.f3, .int .i64 x.f4], rfl, rfl, ⟨[.int .i64 x.f1], [.int .i64 x.f2, .int .i64 x.f3, .int .i64 x.f4], rfl, rfl, ⟨[.int .i64 x.f2], [.int .i64 x.f3, .int .i64 x.f4], rfl, rfl, ⟨[.int .i64 x.f3], [.int .i64 x.f4], rfl, rfl, rfl⟩⟩⟩⟩
def rd_T96 (xs : List S96) (i : Int) : S96 := xs.getD i.toNat z96
theorem at_T96 {w : World} {A : Option Addr} {n : Nat} {xs : List S96} (h : Kd.C k96 w A n xs) (i : Int) (h0 : 0 ≤ i) (h1 : i < n) : ∃ ad , A = some ad ∧ w.cell? (ad.add (i.toNat * 5)) = some (.int .i64 (rd_T96 xs i).f0) ∧ w.cell? ⟨(ad.add (i.toNat * 5)).block, (ad.add (i.toNat * 5)).off + 1, none⟩ = some (.int .i64 (rd_T96 xs i).f1) ∧ w.cell? ⟨(ad.add (i.toNat * 5)).block, (ad.add (i.toNat * 5)).off + 2, none⟩ = some (.int .i64 (rd_T96 xs i).f2) ∧ w.cell? ⟨(ad.add (i.toNat * 5)).block, (ad.add (i.toNat * 5)).off + 3, none⟩ = some (.int .i64 (rd_T96 xs i).f3) ∧ w.cell? ⟨(ad.add (i.toNat * 5)).block, (ad.add (i.toNat * 5)).off + 4, none⟩ = some (.int .i64 (rd_T96 xs i).f4) := by
 obtain ⟨ad, c, e, _, hK, hc0⟩ := Kd.C_get h z96 i h0 h1
 have hc : ∀ j u, c[j]? = some u → w.cell? (ad.add (i.toNat * 5 + j)) = some u := hc0
 obtain rfl := k96_open hK
 exact ⟨ad, e, hc 0 _ rfl, by rw [← add_field _ _ 1 (by omega)]; exact hc 1 _ rfl, by rw [← add_field _ _ 2 (by omega)]; exact hc 2 _ rfl, by rw [← add_field _ _ 3 (by omega)]; exact hc 3 _ rfl, by rw [← add_field _ _ 4 (by omega)]; exact hc 4 _ rfl⟩
structure S64 where
 f0 : Int
 f1 : Int
 f2 : Int
 f3 : Int
 f4 : Int
 f5 : Int
 f6 : Int
 f7 : Int
def z64 : S64 := ⟨(0 : Int), (0 : Int), (0 : Int), (0 : Int), (0 : Int), (0 : Int), (0 : Int), (0 : Int)⟩
def k64 : Kd S64 := Kd.iso (Kd.pair (Kd.int .i64) (Kd.pair (Kd.int .i64) (Kd.pair (Kd.int .i64) (Kd.pair (Kd.int .i64) (Kd.pair (Kd.int .i64) (Kd.pair (Kd.int .i64) (Kd.pair (Kd.int .i64) (Kd.int .i64)))))))) (fun x : S64 => (x.f0, x.f1, x.f2, x.f3, x.f4, x.f5, x.f6, x.f7))
theorem k64_open {w : World} {x : S64} {cs : List Value} (h : k64.K w x cs) : cs = [.int .i64 x.f0, .int .i64 x.f1, .int .i64 x.f2, .int .i64 x.f3, .int .i64 x.f4, .int .i64 x.f5, .int .i64 x.f6, .int .i64 x.f7] := by
 obtain ⟨_, _, rfl, rfl, ⟨_, _, rfl, rfl, ⟨_, _, rfl, rfl, ⟨_, _, rfl, rfl, ⟨_, _, rfl, rfl, ⟨_, _, rfl, rfl, ⟨_, _, rfl, rfl, rfl⟩⟩⟩⟩⟩⟩⟩ := h
 exact rfl
theorem k64_mk (w : World) (x : S64)  : k64.K w x [.int .i64 x.f0, .int .i64 x.f1, .int .i64 x.f2, .int .i64 x.f3, .int .i64 x.f4, .int .i64 x.f5, .int .i64 x.f6, .int .i64 x.f7] := ⟨[.int .i64 x.f0], [.int .i64 x.f1, .int .i64 x.f2, .int .i64 x.f3, .int .i64 x.f4, .int .i64 x.f5, .int .i64 x.f6, .int .i64 x.f7], rfl, rfl, ⟨[.int .i64 x.f1], [.int .i64 x.f2, .int .i64 x.f3, .int .i64 x.f4, .int .i64 x.f5, .int .i64 x.f6, .int .i64 x.f7], rfl, rfl, ⟨[.int .i64 x.f2], [.int .i64 x.f3, .int .i64 x.f4, .int .i64 x.f5, .int .i64 x.f6, .int .i64 x.f7], rfl, rfl, ⟨[.int .i64 x.f3], [.int .i64 x.f4, .int .i64 x.f5, .int .i64 x.f6, .int .i64 x.f7], rfl, rfl, ⟨[.int .i64 x.f4], [.int .i64 x.f5, .int .i64 x.f6, .int .i64 x.f7], rfl, rfl, ⟨[.int .i64 x.f5], [.int .i64 x.f6, .int .i64 x.f7], rfl, rfl, ⟨[.int .i64 x.f6], [.int .i64 x.f7], rfl, rfl, rfl⟩⟩⟩⟩⟩⟩⟩
def rd_T64 (xs : List S64) (i : Int) : S64 := xs.getD i.toNat z64
structure S106 where
 f0 : Int
 f1 : Int
def z106 : S106 := ⟨(0 : Int), (0 : Int)⟩
def k106 : Kd S106 := Kd.iso (Kd.pair (Kd.int .i64) (Kd.int .i64)) (fun x : S106 => (x.f0, x.f1))
theorem k106_open {w : World} {x : S106} {cs : List Value} (h : k106.K w x cs) : cs = [.int .i64 x.f0, .int .i64 x.f1] := by
 obtain ⟨_, _, rfl, rfl, rfl⟩ := h
 exact rfl
theorem k106_mk (w : World) (x : S106)  : k106.K w x [.int .i64 x.f0, .int .i64 x.f1] := ⟨[.int .i64 x.f0], [.int .i64 x.f1], rfl, rfl, rfl⟩
def rd_T106 (xs : List S106) (i : Int) : S106 := xs.getD i.toNat z106
structure S108 where
 f0 : Int
 f1 : Int
def z108 : S108 := ⟨(0 : Int), (0 : Int)⟩
def k108 : Kd S108 := Kd.iso (Kd.pair (Kd.int .i64) (Kd.int .i64)) (fun x : S108 => (x.f0, x.f1))
theorem k108_open {w : World} {x : S108} {cs : List Value} (h : k108.K w x cs) : cs = [.int .i64 x.f0, .int .i64 x.f1] := by
 obtain ⟨_, _, rfl, rfl, rfl⟩ := h
 exact rfl
theorem k108_mk (w : World) (x : S108)  : k108.K w x [.int .i64 x.f0, .int .i64 x.f1] := ⟨[.int .i64 x.f0], [.int .i64 x.f1], rfl, rfl, rfl⟩
def rd_T108 (xs : List S108) (i : Int) : S108 := xs.getD i.toNat z108
structure S110 where
 f0 : Int
 f1 : Int
 f2 : Int
def z110 : S110 := ⟨(0 : Int), (0 : Int), (0 : Int)⟩
def k110 : Kd S110 := Kd.iso (Kd.pair (Kd.int .i64) (Kd.pair (Kd.int .i64) (Kd.int .i64))) (fun x : S110 => (x.f0, x.f1, x.f2))
theorem k110_open {w : World} {x : S110} {cs : List Value} (h : k110.K w x cs) : cs = [.int .i64 x.f0, .int .i64 x.f1, .int .i64 x.f2] := by
 obtain ⟨_, _, rfl, rfl, ⟨_, _, rfl, rfl, rfl⟩⟩ := h
 exact rfl
theorem k110_mk (w : World) (x : S110)  : k110.K w x [.int .i64 x.f0, .int .i64 x.f1, .int .i64 x.f2] := ⟨[.int .i64 x.f0], [.int .i64 x.f1, .int .i64 x.f2], rfl, rfl, ⟨[.int .i64 x.f1], [.int .i64 x.f2], rfl, rfl, rfl⟩⟩
def rd_T110 (xs : List S110) (i : Int) : S110 := xs.getD i.toNat z110
structure S112 where
 f0 : Int
 f1 : Int
 f2 : Int
 f3 : Int
 f4 : Int
def z112 : S112 := ⟨(0 : Int), (0 : Int), (0 : Int), (0 : Int), (0 : Int)⟩
def k112 : Kd S112 := Kd.iso (Kd.pair (Kd.int .i64) (Kd.pair (Kd.int .i64) (Kd.pair (Kd.int .i64) (Kd.pair (Kd.int .i64) (Kd.int .i64))))) (fun x : S112 => (x.f0, x.f1, x.f2, x.f3, x.f4))
theorem k112_open {w : World} {x : S112} {cs : List Value} (h : k112.K w x cs) : cs = [.int .i64 x.f0, .int .i64 x.f1, .int .i64 x.f2, .int .i64 x.f3, .int .i64 x.f4] := by
 obtain ⟨_, _, rfl, rfl, ⟨_, _, rfl, rfl, ⟨_, _, rfl, rfl, ⟨_, _, rfl, rfl, rfl⟩⟩⟩⟩ := h
 exact rfl
theorem k112_mk (w : World) (x : S112)  : k112.K w x [.int .i64 x.f0, .int .i64 x.f1, .int .i64 x.f2, .int .i64 x.f3, .int .i64 x.f4] := ⟨[.int .i64 x.f0], [.int .i64 x.f1, .int .i64 x.f2, .int .i64 x.f3, .int .i64 x.f4], rfl, rfl, ⟨[.int .i64 x.f1], [.int .i64 x.f2, .int .i64 x.f3, .int .i64 x.f4], rfl, rfl, ⟨[.int .i64 x.f2], [.int .i64 x.f3, .int .i64 x.f4], rfl, rfl, ⟨[.int .i64 x.f3], [.int .i64 x.f4], rfl, rfl, rfl⟩⟩⟩⟩
def rd_T112 (xs : List S112) (i : Int) : S112 := xs.getD i.toNat z112
end Go.Proofs.Ytmfgajbkcnlkcaa.P
namespace Go.Proofs.Ytmfgajbkcnlkcaa.P
open Go.RowKit Go.Proofs.YtmfgajbkcnlkcaaW.PrintWords Go.Proofs.YtmfgajbkcnlkcaaW.PrintLast Go.Proofs.YtmfgajbkcnlkcaaW.PrintMore
attribute [local go_sem] max2_int min2_int max_two min_two max_three min_three max_four min_four   -- for this text's walks alone
set_option linter.unusedVariables false
set_option linter.unusedSimpArgs false
def laws_eqTrade.f (a0_0 : Int) (a0_1 : Int) (a0_2 : Int) (a0_3 : Int) (a0_4 : Int) (a0_5 : Int) (a0_6 : Int) (a0_7 : Int) (a1_0 : Int) (a1_1 : Int) (a1_2 : Int) (a1_3 : Int) (a1_4 : Int) (a1_5 : Int) (a1_6 : Int) (a1_7 : Int) : Option (Bool) := if a0_0 = a1_0 then (if a0_1 = a1_1 then (if a0_2 = a1_2 then (if a0_3 = a1_3 then (if a0_4 = a1_4 then (if a0_5 = a1_5 then (if a0_6 = a1_6 then (if a0_7 = a1_7 then (some true) else (some false)) else (some false)) else (some false)) else (some false)) else (some false)) else (some false)) else (some false)) else (some false)
def laws_eqTradeS.l0 : Nat → List (S50) → List (S50) → Int → Option (Bool)
 | 0, _, _, _ => none
 | k + 1, x0, x1, x5 => if x5 < (x0.length : Int) then (if 0 ≤ x5 then (if x5 < (x1.length : Int) then ((laws_eqTrade.f ((rd_T50 x0 x5).f0) ((rd_T50 x0 x5).f1) ((rd_T50 x0 x5).f2) ((rd_T50 x0 x5).f3) ((rd_T50 x0 x5).f4) ((rd_T50 x0 x5).f5) ((rd_T50 x0 x5).f6) ((rd_T50 x0 x5).f7) ((rd_T50 x1 x5).f0) ((rd_T50 x1 x5).f1) ((rd_T50 x1 x5).f2) ((rd_T50 x1 x5).f3) ((rd_T50 x1 x5).f4) ((rd_T50 x1 x5).f5) ((rd_T50 x1 x5).f6) ((rd_T50 x1 x5).f7)).bind fun t105 => (if t105 = true then (laws_eqTradeS.l0 k x0 x1 (wrap64 (x5 + 1))) else (some false))) else (none)) else (none)) else (some true)
def laws_eqTradeS.f (k : Nat) (l0 : List (S50)) (l1 : List (S50)) : Option (Bool) := if (l0.length : Int) = (l1.length : Int) then (laws_eqTradeS.l0 k l0 l1 0) else (some false)
def laws_eqAccount.f (a0_0 : Int) (a0_1 : Int) (a1_0 : Int) (a1_1 : Int) : Option (Bool) := if a0_0 = a1_0 then (if a0_1 = a1_1 then (some true) else (some false)) else (some false)
end Go.Proofs.Ytmfgajbkcnlkcaa.P
namespace Go.Proofs.Ytmfgajbkcnlkcaa.P
open Go.RowKit Go.Proofs.YtmfgajbkcnlkcaaW.PrintWords Go.Proofs.YtmfgajbkcnlkcaaW.PrintLast Go.Proofs.YtmfgajbkcnlkcaaW.PrintMore
attribute [local go_sem] max2_int min2_int max_two min_two max_three min_three max_four min_four   -- for this text's walks alone
set_option linter.unusedVariables false
set_option linter.unusedSimpArgs false
def laws_eqAccountS.l0 : Nat → List (S88) → List (S88) → Int → Option (Bool)
 | 0, _, _, _ => none
 | k + 1, x0, x1, x5 => if x5 < (x0.length : Int) then (if 0 ≤ x5 then (if x5 < (x1.length : Int) then ((laws_eqAccount.f ((rd_T88 x0 x5).f0) ((rd_T88 x0 x5).f1) ((rd_T88 x1 x5).f0) ((rd_T88 x1 x5).f1)).bind fun t110 => (if t110 = true then (laws_eqAccountS.l0 k x0 x1 (wrap64 (x5 + 1))) else (some false))) else (none)) else (none)) else (some true)
def laws_eqAccountS.f (k : Nat) (l0 : List (S88)) (l1 : List (S88)) : Option (Bool) := if (l0.length : Int) = (l1.length : Int) then (laws_eqAccountS.l0 k l0 l1 0) else (some false)
def laws_eqInstr.f (a0_0 : Int) (a0_1 : Int) (a1_0 : Int) (a1_1 : Int) : Option (Bool) := if a0_0 = a1_0 then (if a0_1 = a1_1 then (some true) else (some false)) else (some false)
def laws_eqInstrS.l0 : Nat → List (S90) → List (S90) → Int → Option (Bool)
 | 0, _, _, _ => none
 | k + 1, x0, x1, x5 => if x5 < (x0.length : Int) then (if 0 ≤ x5 then (if x5 < (x1.length : Int) then ((laws_eqInstr.f ((rd_T90 x0 x5).f0) ((rd_T90 x0 x5).f1) ((rd_T90 x1 x5).f0) ((rd_T90 x1 x5).f1)).bind fun t115 => (if t115 = true then (laws_eqInstrS.l0 k x0 x1 (wrap64 (x5 + 1))) else (some false))) else (none)) else (none)) else (some true)
def laws_eqInstrS.f (k : Nat) (l0 : List (S90)) (l1 : List (S90)) : Option (Bool) := if (l0.length : Int) = (l1.length : Int) then (laws_eqInstrS.l0 k l0 l1 0) else (some false)
def laws_eqBal.f (a0_0 : Int) (a0_1 : Int) (a0_2 : Int) (a1_0 : Int) (a1_1 : Int) (a1_2 : Int) : Option (Bool) := if a0_0 = a1_0 then (if a0_1 = a1_1 then (if a0_2 = a1_2 then (some true) else (some false)) else (some false)) else (some false)
end Go.Proofs.Ytmfgajbkcnlkcaa.P
namespace Go.Proofs.Ytmfgajbkcnlkcaa.P
open Go.RowKit Go.Proofs.YtmfgajbkcnlkcaaW.PrintWords Go.Proofs.YtmfgajbkcnlkcaaW.PrintLast Go.Proofs.YtmfgajbkcnlkcaaW.PrintMore
attribute [local go_sem] max2_int min2_int max_two min_two max_three min_three max_four min_four   -- for this text's walks alone
set_option linter.unusedVariables false
set_option linter.unusedSimpArgs false
def laws_eqBalS.l0 : Nat → List (S93) → List (S93) → Int → Option (Bool)
 | 0, _, _, _ => none
 | k + 1, x0, x1, x5 => if x5 < (x0.length : Int) then (if 0 ≤ x5 then (if x5 < (x1.length : Int) then ((laws_eqBal.f ((rd_T93 x0 x5).f0) ((rd_T93 x0 x5).f1) ((rd_T93 x0 x5).f2) ((rd_T93 x1 x5).f0) ((rd_T93 x1 x5).f1) ((rd_T93 x1 x5).f2)).bind fun t120 => (if t120 = true then (laws_eqBalS.l0 k x0 x1 (wrap64 (x5 + 1))) else (some false))) else (none)) else (none)) else (some true)
def laws_eqBalS.f (k : Nat) (l0 : List (S93)) (l1 : List (S93)) : Option (Bool) := if (l0.length : Int) = (l1.length : Int) then (laws_eqBalS.l0 k l0 l1 0) else (some false)
def laws_eqLot.f (a0_0 : Int) (a0_1 : Int) (a0_2 : Int) (a0_3 : Int) (a0_4 : Int) (a1_0 : Int) (a1_1 : Int) (a1_2 : Int) (a1_3 : Int) (a1_4 : Int) : Option (Bool) := if a0_0 = a1_0 then (if a0_1 = a1_1 then (if a0_2 = a1_2 then (if a0_3 = a1_3 then (if a0_4 = a1_4 then (some true) else (some false)) else (some false)) else (some false)) else (some false)) else (some false)
def laws_eqLotS.l0 : Nat → List (S96) → List (S96) → Int → Option (Bool)
 | 0, _, _, _ => none
 | k + 1, x0, x1, x5 => if x5 < (x0.length : Int) then (if 0 ≤ x5 then (if x5 < (x1.length : Int) then ((laws_eqLot.f ((rd_T96 x0 x5).f0) ((rd_T96 x0 x5).f1) ((rd_T96 x0 x5).f2) ((rd_T96 x0 x5).f3) ((rd_T96 x0 x5).f4) ((rd_T96 x1 x5).f0) ((rd_T96 x1 x5).f1) ((rd_T96 x1 x5).f2) ((rd_T96 x1 x5).f3) ((rd_T96 x1 x5).f4)).bind fun t125 => (if t125 = true then (laws_eqLotS.l0 k x0 x1 (wrap64 (x5 + 1))) else (some false))) else (none)) else (none)) else (some true)
def laws_eqLotS.f (k : Nat) (l0 : List (S96)) (l1 : List (S96)) : Option (Bool) := if (l0.length : Int) = (l1.length : Int) then (laws_eqLotS.l0 k l0 l1 0) else (some false)
end Go.Proofs.Ytmfgajbkcnlkcaa.P
namespace Go.Proofs.Ytmfgajbkcnlkcaa.P
open Go.RowKit Go.Proofs.YtmfgajbkcnlkcaaW.PrintWords Go.Proofs.YtmfgajbkcnlkcaaW.PrintLast Go.Proofs.YtmfgajbkcnlkcaaW.PrintMore
attribute [local go_sem] max2_int min2_int max_two min_two max_three min_three max_four min_four   -- for this text's walks alone
set_option linter.unusedVariables false
set_option linter.unusedSimpArgs false
def laws_eqBooks.f (k : Nat) (l0_0 : List (S88)) (l0_1 : List (S90)) (l0_2 : List (S93)) (l0_3 : List (S96)) (l0_4 : List (S50)) (a0_5 : Int) (l1_0 : List (S88)) (l1_1 : List (S90)) (l1_2 : List (S93)) (l1_3 : List (S96)) (l1_4 : List (S50)) (a1_5 : Int) : Option (Bool) := (laws_eqAccountS.f k l0_0 l1_0).bind fun t128 => (if t128 = true then ((laws_eqInstrS.f k l0_1 l1_1).bind fun t129 => (if t129 = true then ((laws_eqBalS.f k l0_2 l1_2).bind fun t130 => (if t130 = true then ((laws_eqLotS.f k l0_3 l1_3).bind fun t131 => (if t131 = true then ((laws_eqTradeS.f k l0_4 l1_4).bind fun t132 => (if t132 = true then (if a0_5 = a1_5 then (some true) else (some false)) else (some false))) else (some false))) else (some false))) else (some false))) else (some false))
def laws_szTradeS.f (l0 : List (S64)) (a1 : Int) : Option (Int) := if (wrap64 (a1 - (l0.length : Int))) < 0 then (some (-1)) else (some (wrap64 (a1 - (l0.length : Int))))
def laws_szAccountS.f (l0 : List (S106)) (a1 : Int) : Option (Int) := if (wrap64 (a1 - (l0.length : Int))) < 0 then (some (-1)) else (some (wrap64 (a1 - (l0.length : Int))))
def laws_szInstrS.f (l0 : List (S108)) (a1 : Int) : Option (Int) := if (wrap64 (a1 - (l0.length : Int))) < 0 then (some (-1)) else (some (wrap64 (a1 - (l0.length : Int))))
def laws_szBalS.f (l0 : List (S110)) (a1 : Int) : Option (Int) := if (wrap64 (a1 - (l0.length : Int))) < 0 then (some (-1)) else (some (wrap64 (a1 - (l0.length : Int))))
def laws_szLotS.f (l0 : List (S112)) (a1 : Int) : Option (Int) := if (wrap64 (a1 - (l0.length : Int))) < 0 then (some (-1)) else (some (wrap64 (a1 - (l0.length : Int))))
def laws_szBooks.f (l0_0 : List (S106)) (l0_1 : List (S108)) (l0_2 : List (S110)) (l0_3 : List (S112)) (l0_4 : List (S64)) (a0_5 : Int) (a1 : Int) : Option (Int) := (laws_szAccountS.f l0_0 a1).bind fun t134 => (if t134 < 0 then (some (-1)) else ((laws_szInstrS.f l0_1 t134).bind fun t135 => (if t135 < 0 then (some (-1)) else ((laws_szBalS.f l0_2 t135).bind fun t136 => (if t136 < 0 then (some (-1)) else ((laws_szLotS.f l0_3 t136).bind fun t137 => (if t137 < 0 then (some (-1)) else ((laws_szTradeS.f l0_4 t137).bind fun t138 => (if t138 < 0 then (some (-1)) else (some t138))))))))))
def spec_l1In.f (a0 : Int) (a1 : Int) (a2 : Int) : Option (Bool) := if a0 ≥ a1 then (some (decide (a0 ≤ a2))) else (some false)
def spec_l3No.f (a0 : Int) : Option (Bool) := (spec_l1In.f a0 1 1000).bind fun t139 => (some t139)
def spec_l1Some.f (a0 : Int) (a1 : Int) : Option (Bool) := (spec_l1In.f a0 a1 1000000000000000).bind fun t140 => (some t140)
end Go.Proofs.Ytmfgajbkcnlkcaa.P
namespace Go.Proofs.Ytmfgajbkcnlkcaa.P
open Go.RowKit Go.Proofs.YtmfgajbkcnlkcaaW.PrintWords Go.Proofs.YtmfgajbkcnlkcaaW.PrintLast Go.Proofs.YtmfgajbkcnlkcaaW.PrintMore
attribute [local go_sem] max2_int min2_int max_two min_two max_three min_three max_four min_four   -- for this text's walks alone
set_option linter.unusedVariables false
set_option linter.unusedSimpArgs false
def laws_toTrade.f (a0_0 : Int) (a0_1 : Int) (a0_2 : Int) (a0_3 : Int) (a0_4 : Int) (a0_5 : Int) (a0_6 : Int) (a0_7 : Int) : Option (Int × Int × Int × Int × Int × Int × Int × Int) := some (a0_0, a0_1, a0_2, a0_3, a0_4, a0_5, a0_6, a0_7)
def laws_toTradeS.l0 : Nat → List (S64) → List (S50) → Int → Option ((List (S50)))
 | 0, _, _, _ => none
 | k + 1, x0, x3, x4 => if x4 < (x0.length : Int) then (if 0 ≤ x4 then ((laws_toTrade.f ((rd_T64 x0 x4).f0) ((rd_T64 x0 x4).f1) ((rd_T64 x0 x4).f2) ((rd_T64 x0 x4).f3) ((rd_T64 x0 x4).f4) ((rd_T64 x0 x4).f5) ((rd_T64 x0 x4).f6) ((rd_T64 x0 x4).f7)).bind fun bt287 => (if x4 < (x3.length : Int) then (laws_toTradeS.l0 k x0 (x3.set (x4 : Int).toNat (⟨bt287.1, bt287.2.1, bt287.2.2.1, bt287.2.2.2.1, bt287.2.2.2.2.1, bt287.2.2.2.2.2.1, bt287.2.2.2.2.2.2.1, bt287.2.2.2.2.2.2.2⟩ : S50)) (wrap64 (x4 + 1))) else (none))) else (none)) else (some x3)
def laws_toTradeS.f (k : Nat) (l0 : List (S64)) : Option ((List (S50))) := if 0 ≤ (l0.length : Int) then (if ((l0.length : Int) : Int).toNat ≤ 4398046511104 then (laws_toTradeS.l0 k l0 (List.replicate ((l0.length : Int) : Int).toNat z50) 0) else (none)) else (none)
def laws_toAccount.f (a0_0 : Int) (a0_1 : Int) : Option (Int × Int) := some (a0_0, a0_1)
def laws_toAccountS.l0 : Nat → List (S106) → List (S88) → Int → Option ((List (S88)))
 | 0, _, _, _ => none
 | k + 1, x0, x3, x4 => if x4 < (x0.length : Int) then (if 0 ≤ x4 then ((laws_toAccount.f ((rd_T106 x0 x4).f0) ((rd_T106 x0 x4).f1)).bind fun bt303 => (if x4 < (x3.length : Int) then (laws_toAccountS.l0 k x0 (x3.set (x4 : Int).toNat (⟨bt303.1, bt303.2⟩ : S88)) (wrap64 (x4 + 1))) else (none))) else (none)) else (some x3)
def laws_toAccountS.f (k : Nat) (l0 : List (S106)) : Option ((List (S88))) := if 0 ≤ (l0.length : Int) then (if ((l0.length : Int) : Int).toNat ≤ 17592186044416 then (laws_toAccountS.l0 k l0 (List.replicate ((l0.length : Int) : Int).toNat z88) 0) else (none)) else (none)
def laws_toInstr.f (a0_0 : Int) (a0_1 : Int) : Option (Int × Int) := some (a0_0, a0_1)
def laws_toInstrS.l0 : Nat → List (S108) → List (S90) → Int → Option ((List (S90)))
 | 0, _, _, _ => none
 | k + 1, x0, x3, x4 => if x4 < (x0.length : Int) then (if 0 ≤ x4 then ((laws_toInstr.f ((rd_T108 x0 x4).f0) ((rd_T108 x0 x4).f1)).bind fun bt313 => (if x4 < (x3.length : Int) then (laws_toInstrS.l0 k x0 (x3.set (x4 : Int).toNat (⟨bt313.1, bt313.2⟩ : S90)) (wrap64 (x4 + 1))) else (none))) else (none)) else (some x3)
def laws_toInstrS.f (k : Nat) (l0 : List (S108)) : Option ((List (S90))) := if 0 ≤ (l0.length : Int) then (if ((l0.length : Int) : Int).toNat ≤ 17592186044416 then (laws_toInstrS.l0 k l0 (List.replicate ((l0.length : Int) : Int).toNat z90) 0) else (none)) else (none)
def laws_toBal.f (a0_0 : Int) (a0_1 : Int) (a0_2 : Int) : Option (Int × Int × Int) := some (a0_0, a0_1, a0_2)
def laws_toBalS.l0 : Nat → List (S110) → List (S93) → Int → Option ((List (S93)))
 | 0, _, _, _ => none
 | k + 1, x0, x3, x4 => if x4 < (x0.length : Int) then (if 0 ≤ x4 then ((laws_toBal.f ((rd_T110 x0 x4).f0) ((rd_T110 x0 x4).f1) ((rd_T110 x0 x4).f2)).bind fun bt323 => (if x4 < (x3.length : Int) then (laws_toBalS.l0 k x0 (x3.set (x4 : Int).toNat (⟨bt323.1, bt323.2.1, bt323.2.2⟩ : S93)) (wrap64 (x4 + 1))) else (none))) else (none)) else (some x3)
def laws_toBalS.f (k : Nat) (l0 : List (S110)) : Option ((List (S93))) := if 0 ≤ (l0.length : Int) then (if ((l0.length : Int) : Int).toNat ≤ 11728124029610 then (laws_toBalS.l0 k l0 (List.replicate ((l0.length : Int) : Int).toNat z93) 0) else (none)) else (none)
def laws_toLot.f (a0_0 : Int) (a0_1 : Int) (a0_2 : Int) (a0_3 : Int) (a0_4 : Int) : Option (Int × Int × Int × Int × Int) := some (a0_0, a0_1, a0_2, a0_3, a0_4)
def laws_toLotS.l0 : Nat → List (S112) → List (S96) → Int → Option ((List (S96)))
 | 0, _, _, _ => none
 | k + 1, x0, x3, x4 => if x4 < (x0.length : Int) then (if 0 ≤ x4 then ((laws_toLot.f ((rd_T112 x0 x4).f0) ((rd_T112 x0 x4).f1) ((rd_T112 x0 x4).f2) ((rd_T112 x0 x4).f3) ((rd_T112 x0 x4).f4)).bind fun bt334 => (if x4 < (x3.length : Int) then (laws_toLotS.l0 k x0 (x3.set (x4 : Int).toNat (⟨bt334.1, bt334.2.1, bt334.2.2.1, bt334.2.2.2.1, bt334.2.2.2.2⟩ : S96)) (wrap64 (x4 + 1))) else (none))) else (none)) else (some x3)
def laws_toLotS.f (k : Nat) (l0 : List (S112)) : Option ((List (S96))) := if 0 ≤ (l0.length : Int) then (if ((l0.length : Int) : Int).toNat ≤ 7036874417766 then (laws_toLotS.l0 k l0 (List.replicate ((l0.length : Int) : Int).toNat z96) 0) else (none)) else (none)
def laws_toBooks.f (k : Nat) (l0_0 : List (S106)) (l0_1 : List (S108)) (l0_2 : List (S110)) (l0_3 : List (S112)) (l0_4 : List (S64)) (a0_5 : Int) : Option ((List (S88)) × (List (S90)) × (List (S93)) × (List (S96)) × (List (S50)) × Int) := (laws_toAccountS.f k l0_0).bind fun t343 => ((laws_toInstrS.f k l0_1).bind fun t346 => ((laws_toBalS.f k l0_2).bind fun t349 => ((laws_toLotS.f k l0_3).bind fun t352 => ((laws_toTradeS.f k l0_4).bind fun t355 => (some (t343, t346, t349, t352, t355, a0_5))))))
def impl_in.f (a0 : Int) (a1 : Int) (a2 : Int) : Option (Bool) := if a0 ≥ a1 then (some (decide (a0 ≤ a2))) else (some false)
theorem impl_in.calls (a0 : Int) (a1 : Int) (a2 : Int) (r : Bool) (w : World) (h : impl_in.f a0 a1 a2 = some r) :
 Calls Try.prog 35 #[.int .i64 a0, .int .i64 a1, .int .i64 a2] w fun e w' => e = .returned (.bool r) ∧ Drawn0 w w' := by
 have H : (if a0 ≥ a1 then (some (decide (a0 ≤ a2))) else (some false)) = some r := h
 clear h
 by_cases c4 : a0 ≥ a1
 ·
  rw [if_pos c4] at H
  have c4b0 : decide (a1 ≤ a0) = true := decide_eq_true c4
  clear c4
  obtain rfl := Option.some.inj H
  go_enter Try.func35, Try.ntmps35
  go_wp2
  go_ret
  exact ⟨by first | rfl | (simp; done) | (simp [*]; done), by repeat (first | exact Drawn0.refl _ | apply Drawn0.step)⟩
 ·
  rw [if_neg c4] at H
  have c4b0 : decide (a1 ≤ a0) = false := decide_eq_false c4
  clear c4
  obtain rfl := Option.some.inj H
  go_enter Try.func35, Try.ntmps35
  go_wp2
  go_ret
  exact ⟨by first | rfl | (simp; done) | (simp [*]; done), by repeat (first | exact Drawn0.refl _ | apply Drawn0.step)⟩
def impl_isNo.f (a0 : Int) : Option (Bool) := (impl_in.f a0 1 1000).bind fun t358 => (some t358)
theorem impl_isNo.calls (a0 : Int) (r : Bool) (w : World) (h : impl_isNo.f a0 = some r) :
 Calls Try.prog 34 #[.int .i64 a0] w fun e w' => e = .returned (.bool r) ∧ Drawn0 w w' := by
 have H : ((impl_in.f a0 1 1000).bind fun t358 => (some t358)) = some r := h
 clear h
 replace H := Option.bind_eq_some_iff.mp H
 obtain ⟨t358, A20, H⟩ := H
 replace H : (some t358) = some r := H
 have A2 := Aside0.mk A20
 clear A20
 obtain rfl := Option.some.inj H
 go_enter Try.func34, Try.ntmps34
 go_wp2_with (first | ((with_reducible refine gate_callee (f := 35) rfl ?_); refine goesL_ (some 4) rfl rfl Try.func35 (by kernel_rfl) rfl #[.int .i64 a0, .int .i64 1, .int .i64 1000] rfl (by (try simp only [List.map_toArray, List.map_cons, List.map_nil]); first | done | rfl | (simp only [List.length_drop, List.length_take]; rfl)) ?_; (with_reducible refine (impl_in.calls a0 1 1000 t358 _ A2.out).mono ?_); rintro e w' ⟨rfl, ⟨nd, rfl⟩⟩; refine ⟨_, rfl, ?_⟩))
 go_ret
 exact ⟨by first | rfl | (simp; done) | (simp [*]; done), by repeat (first | exact Drawn0.refl _ | apply Drawn0.step)⟩
end Go.Proofs.Ytmfgajbkcnlkcaa.P
namespace Go.Proofs.Ytmfgajbkcnlkcaa.P
open Go.RowKit Go.Proofs.YtmfgajbkcnlkcaaW.PrintWords Go.Proofs.YtmfgajbkcnlkcaaW.PrintLast Go.Proofs.YtmfgajbkcnlkcaaW.PrintMore
attribute [local go_sem] max2_int min2_int max_two min_two max_three min_three max_four min_four   -- for this text's walks alone
set_option linter.unusedVariables false
set_option linter.unusedSimpArgs false
def spec_TradesOk.l0 : Nat → List (S50) → Int → Option (Bool)
 | 0, _, _ => none
 | k + 1, x0, x3 => if x3 < (x0.length : Int) then (if 0 ≤ x3 then ((spec_l3No.f ((rd_T50 x0 x3).f0)).bind fun t143 => (if t143 = true then ((spec_l3No.f ((rd_T50 x0 x3).f1)).bind fun t144 => (if t144 = true then ((spec_l3No.f ((rd_T50 x0 x3).f2)).bind fun t145 => (if t145 = true then ((spec_l3No.f ((rd_T50 x0 x3).f3)).bind fun t146 => (if t146 = true then ((spec_l3No.f ((rd_T50 x0 x3).f5)).bind fun t147 => (if t147 = true then (if ((rd_T50 x0 x3).f1) = ((rd_T50 x0 x3).f2) then (some false) else ((spec_l1Some.f ((rd_T50 x0 x3).f4) 1).bind fun t148 => (if t148 = true then ((spec_l1Some.f ((rd_T50 x0 x3).f6) 0).bind fun t149 => (if t149 = true then ((spec_l1In.f ((rd_T50 x0 x3).f7) 1 3).bind fun t150 => (if t150 = true then (if x3 > 0 then (if 0 ≤ (wrap64 (x3 - 1)) then (if (wrap64 (x3 - 1)) < (x0.length : Int) then (if ((rd_T50 x0 (wrap64 (x3 - 1))).f0) ≥ ((rd_T50 x0 x3).f0) then (some false) else (spec_TradesOk.l0 k x0 (wrap64 (x3 + 1)))) else (none)) else (none)) else (spec_TradesOk.l0 k x0 (wrap64 (x3 + 1)))) else (some false))) else (some false))) else (some false)))) else (some false))) else (some false))) else (some false))) else (some false))) else (some false))) else (none)) else (some true)
def spec_TradesOk.f (k : Nat) (l0 : List (S50)) : Option (Bool) := if (l0.length : Int) > 30 then (some false) else (spec_TradesOk.l0 k l0 0)
end Go.Proofs.Ytmfgajbkcnlkcaa.P
namespace Go.Proofs.Ytmfgajbkcnlkcaa.P
open Go.RowKit Go.Proofs.YtmfgajbkcnlkcaaW.PrintWords Go.Proofs.YtmfgajbkcnlkcaaW.PrintLast Go.Proofs.YtmfgajbkcnlkcaaW.PrintMore
attribute [local go_sem] max2_int min2_int max_two min_two max_three min_three max_four min_four   -- for this text's walks alone
set_option linter.unusedVariables false
set_option linter.unusedSimpArgs false
def spec_AccountsOk.l0 : Nat → List (S88) → Int → Option (Bool)
 | 0, _, _ => none
 | k + 1, x0, x3 => if x3 < (x0.length : Int) then (if 0 ≤ x3 then ((spec_l3No.f ((rd_T88 x0 x3).f0)).bind fun t164 => (if t164 = true then ((spec_l1In.f ((rd_T88 x0 x3).f1) 1 4).bind fun t166 => (if t166 = true then (if x3 > 0 then (if 0 ≤ (wrap64 (x3 - 1)) then (if (wrap64 (x3 - 1)) < (x0.length : Int) then (if ((rd_T88 x0 (wrap64 (x3 - 1))).f0) ≥ ((rd_T88 x0 x3).f0) then (some false) else (spec_AccountsOk.l0 k x0 (wrap64 (x3 + 1)))) else (none)) else (none)) else (spec_AccountsOk.l0 k x0 (wrap64 (x3 + 1)))) else (some false))) else (some false))) else (none)) else (some true)
def spec_AccountsOk.f (k : Nat) (l0 : List (S88)) : Option (Bool) := if (l0.length : Int) > 20 then (some false) else (spec_AccountsOk.l0 k l0 0)
end Go.Proofs.Ytmfgajbkcnlkcaa.P
namespace Go.Proofs.Ytmfgajbkcnlkcaa.P
open Go.RowKit Go.Proofs.YtmfgajbkcnlkcaaW.PrintWords Go.Proofs.YtmfgajbkcnlkcaaW.PrintLast Go.Proofs.YtmfgajbkcnlkcaaW.PrintMore
attribute [local go_sem] max2_int min2_int max_two min_two max_three min_three max_four min_four   -- for this text's walks alone
set_option linter.unusedVariables false
set_option linter.unusedSimpArgs false
def spec_InstrsOk.l0 : Nat → List (S90) → Int → Option (Bool)
 | 0, _, _ => none
 | k + 1, x0, x3 => if x3 < (x0.length : Int) then (if 0 ≤ x3 then ((spec_l3No.f ((rd_T90 x0 x3).f0)).bind fun t170 => (if t170 = true then ((spec_l1In.f ((rd_T90 x0 x3).f1) 1 2).bind fun t172 => (if t172 = true then (if x3 > 0 then (if 0 ≤ (wrap64 (x3 - 1)) then (if (wrap64 (x3 - 1)) < (x0.length : Int) then (if ((rd_T90 x0 (wrap64 (x3 - 1))).f0) ≥ ((rd_T90 x0 x3).f0) then (some false) else (spec_InstrsOk.l0 k x0 (wrap64 (x3 + 1)))) else (none)) else (none)) else (spec_InstrsOk.l0 k x0 (wrap64 (x3 + 1)))) else (some false))) else (some false))) else (none)) else (some true)
def spec_InstrsOk.f (k : Nat) (l0 : List (S90)) : Option (Bool) := if (l0.length : Int) > 8 then (some false) else (spec_InstrsOk.l0 k l0 0)
end Go.Proofs.Ytmfgajbkcnlkcaa.P
namespace Go.Proofs.Ytmfgajbkcnlkcaa.P
open Go.RowKit Go.Proofs.YtmfgajbkcnlkcaaW.PrintWords Go.Proofs.YtmfgajbkcnlkcaaW.PrintLast Go.Proofs.YtmfgajbkcnlkcaaW.PrintMore
attribute [local go_sem] max2_int min2_int max_two min_two max_three min_three max_four min_four   -- for this text's walks alone
set_option linter.unusedVariables false
set_option linter.unusedSimpArgs false
def spec_AmountOk.f (a0 : Int) : Option (Bool) := (spec_l1In.f a0 (-1000000000000000) 1000000000000000).bind fun t175 => (some t175)
def spec_l4Before.f (a0 : Int) (a1 : Int) (a2 : Int) (a3 : Int) : Option (Bool) := if a0 < a2 then (some true) else (if a0 = a2 then (some (decide (a1 < a3))) else (some false))
def spec_BalsOk.l0 : Nat → List (S93) → Int → Option (Bool)
 | 0, _, _ => none
 | k + 1, x0, x3 => if x3 < (x0.length : Int) then (if 0 ≤ x3 then ((spec_l3No.f ((rd_T93 x0 x3).f0)).bind fun t178 => (if t178 = true then ((spec_l3No.f ((rd_T93 x0 x3).f1)).bind fun t179 => (if t179 = true then ((spec_AmountOk.f ((rd_T93 x0 x3).f2)).bind fun t180 => (if t180 = true then (if ((rd_T93 x0 x3).f2) = 0 then (some false) else (if x3 > 0 then (if 0 ≤ (wrap64 (x3 - 1)) then (if (wrap64 (x3 - 1)) < (x0.length : Int) then ((spec_l4Before.f ((rd_T93 x0 (wrap64 (x3 - 1))).f0) ((rd_T93 x0 (wrap64 (x3 - 1))).f1) ((rd_T93 x0 x3).f0) ((rd_T93 x0 x3).f1)).bind fun t183 => (if t183 = true then (spec_BalsOk.l0 k x0 (wrap64 (x3 + 1))) else (some false))) else (none)) else (none)) else (spec_BalsOk.l0 k x0 (wrap64 (x3 + 1))))) else (some false))) else (some false))) else (some false))) else (none)) else (some true)
def spec_BalsOk.f (k : Nat) (l0 : List (S93)) : Option (Bool) := if (l0.length : Int) > 160 then (some false) else (spec_BalsOk.l0 k l0 0)
def spec_l5Right.f (a0_0 : Int) (a0_1 : Int) (a0_2 : Int) (a0_3 : Int) (a0_4 : Int) : Option (Bool) := (spec_l3No.f a0_0).bind fun t185 => (if t185 = true then ((spec_l3No.f a0_1).bind fun t186 => (if t186 = true then ((spec_l1In.f a0_2 1 1000000000).bind fun t187 => (if t187 = true then ((spec_l1Some.f a0_3 1).bind fun t188 => (if t188 = true then ((spec_l1Some.f a0_4 0).bind fun t189 => (some t189)) else (some false))) else (some false))) else (some false))) else (some false))
def spec_l5Before.f (a0_0 : Int) (a0_1 : Int) (a0_2 : Int) (a0_3 : Int) (a0_4 : Int) (a1_0 : Int) (a1_1 : Int) (a1_2 : Int) (a1_3 : Int) (a1_4 : Int) : Option (Bool) := (spec_l4Before.f a0_0 a0_1 a1_0 a1_1).bind fun t192 => (if t192 = true then (some true) else (if a0_0 = a1_0 then (if a0_1 = a1_1 then (some (decide (a0_2 < a1_2))) else (some false)) else (some false)))
end Go.Proofs.Ytmfgajbkcnlkcaa.P
namespace Go.Proofs.Ytmfgajbkcnlkcaa.P
open Go.RowKit Go.Proofs.YtmfgajbkcnlkcaaW.PrintWords Go.Proofs.YtmfgajbkcnlkcaaW.PrintLast Go.Proofs.YtmfgajbkcnlkcaaW.PrintMore
attribute [local go_sem] max2_int min2_int max_two min_two max_three min_three max_four min_four   -- for this text's walks alone
set_option linter.unusedVariables false
set_option linter.unusedSimpArgs false
mutual
def spec_LotsOk.l0 : Nat → List (S96) → Int → Int → Int → Option (Bool)
 | 0, _, _, _, _ => none
 | k + 1, x0, x3, x4, x5 => if x5 < (x0.length : Int) then (if 0 ≤ x5 then ((spec_l5Right.f ((rd_T96 x0 x5).f0) ((rd_T96 x0 x5).f1) ((rd_T96 x0 x5).f2) ((rd_T96 x0 x5).f3) ((rd_T96 x0 x5).f4)).bind fun t195 => (if t195 = true then (if x5 > 0 then (if 0 ≤ (wrap64 (x5 - 1)) then (if (wrap64 (x5 - 1)) < (x0.length : Int) then ((spec_l5Before.f ((rd_T96 x0 (wrap64 (x5 - 1))).f0) ((rd_T96 x0 (wrap64 (x5 - 1))).f1) ((rd_T96 x0 (wrap64 (x5 - 1))).f2) ((rd_T96 x0 (wrap64 (x5 - 1))).f3) ((rd_T96 x0 (wrap64 (x5 - 1))).f4) ((rd_T96 x0 x5).f0) ((rd_T96 x0 x5).f1) ((rd_T96 x0 x5).f2) ((rd_T96 x0 x5).f3) ((rd_T96 x0 x5).f4)).bind fun t197 => (spec_LotsOk.j1 k x0 x3 x4 x5 (!t197) ((rd_T96 x0 x5).f0) ((rd_T96 x0 x5).f1) ((rd_T96 x0 x5).f2) ((rd_T96 x0 x5).f3) ((rd_T96 x0 x5).f4))) else (none)) else (none)) else (spec_LotsOk.j1 k x0 x3 x4 x5 false ((rd_T96 x0 x5).f0) ((rd_T96 x0 x5).f1) ((rd_T96 x0 x5).f2) ((rd_T96 x0 x5).f3) ((rd_T96 x0 x5).f4))) else (spec_LotsOk.j1 k x0 x3 x4 x5 true ((rd_T96 x0 x5).f0) ((rd_T96 x0 x5).f1) ((rd_T96 x0 x5).f2) ((rd_T96 x0 x5).f3) ((rd_T96 x0 x5).f4)))) else (none)) else (some true)
def spec_LotsOk.j1 : Nat → List (S96) → Int → Int → Int → Bool → Int → Int → Int → Int → Int → Option (Bool)
 | 0, _, _, _, _, _, _, _, _, _, _ => none
 | k + 1, x0, x3, x4, x5, x36, x195000, x195001, x195002, x195003, x195004 => if x36 = true then (some false) else (if x5 = 0 then (spec_LotsOk.j2 k x0 x3 x4 x5 true x195000 x195001 x195002 x195003 x195004) else (if 0 ≤ (wrap64 (x5 - 1)) then (if (wrap64 (x5 - 1)) < (x0.length : Int) then (if x195000 = ((rd_T96 x0 (wrap64 (x5 - 1))).f0) then (spec_LotsOk.j2 k x0 x3 x4 x5 (x195001 != ((rd_T96 x0 (wrap64 (x5 - 1))).f1)) x195000 x195001 x195002 x195003 x195004) else (spec_LotsOk.j2 k x0 x3 x4 x5 true x195000 x195001 x195002 x195003 x195004)) else (none)) else (none)))
def spec_LotsOk.j2 : Nat → List (S96) → Int → Int → Int → Bool → Int → Int → Int → Int → Int → Option (Bool)
 | 0, _, _, _, _, _, _, _, _, _, _ => none
 | k + 1, x0, x3, x4, x5, x60, x195000, x195001, x195002, x195003, x195004 => if x60 = true then (spec_LotsOk.j3 k x0 0 0 x5 x195000 x195001 x195002 x195003 x195004) else (spec_LotsOk.j3 k x0 x3 x4 x5 x195000 x195001 x195002 x195003 x195004)
def spec_LotsOk.j3 : Nat → List (S96) → Int → Int → Int → Int → Int → Int → Int → Int → Option (Bool)
 | 0, _, _, _, _, _, _, _, _, _ => none
 | k + 1, x0, x3, x4, x5, x195000, x195001, x195002, x195003, x195004 => (spec_AmountOk.f (wrap64 (x3 + x195003))).bind fun t200 => (if t200 = true then ((spec_AmountOk.f (wrap64 (x4 + x195004))).bind fun t201 => (if t201 = true then (spec_LotsOk.l0 k x0 (wrap64 (x3 + x195003)) (wrap64 (x4 + x195004)) (wrap64 (x5 + 1))) else (some false))) else (some false))
end
def spec_LotsOk.f (k : Nat) (l0 : List (S96)) : Option (Bool) := if (l0.length : Int) > 120 then (some false) else (spec_LotsOk.l0 k l0 0 0 0)
end Go.Proofs.Ytmfgajbkcnlkcaa.P
namespace Go.Proofs.Ytmfgajbkcnlkcaa.P
open Go.RowKit Go.Proofs.YtmfgajbkcnlkcaaW.PrintWords Go.Proofs.YtmfgajbkcnlkcaaW.PrintLast Go.Proofs.YtmfgajbkcnlkcaaW.PrintMore
attribute [local go_sem] max2_int min2_int max_two min_two max_three min_three max_four min_four   -- for this text's walks alone
set_option linter.unusedVariables false
set_option linter.unusedSimpArgs false
mutual
def spec_AccountKind.l0 : Nat → List (S88) → Int → Int → Option (Int)
 | 0, _, _, _ => none
 | k + 1, x0, x1, x5 => if x5 < (x0.length : Int) then ((spec_AccountsOk.f k x0).bind fun t202 => (spec_AccountKind.j1 k x0 x1 x5 t202)) else (spec_AccountKind.j1 k x0 x1 x5 false)
def spec_AccountKind.j1 : Nat → List (S88) → Int → Int → Bool → Option (Int)
 | 0, _, _, _, _ => none
 | k + 1, x0, x1, x5, x13 => if x13 = true then (if 0 ≤ x5 then (if x5 < (x0.length : Int) then (if ((rd_T88 x0 x5).f0) = x1 then (some ((rd_T88 x0 x5).f1)) else (spec_AccountKind.l0 k x0 x1 (wrap64 (x5 + 1)))) else (none)) else (none)) else (some 0)
end
def spec_AccountKind.f (k : Nat) (l0 : List (S88)) (a1 : Int) : Option (Int) := spec_AccountKind.l0 k l0 a1 0
mutual
def spec_InstrKind.l0 : Nat → List (S90) → Int → Int → Option (Int)
 | 0, _, _, _ => none
 | k + 1, x0, x1, x5 => if x5 < (x0.length : Int) then ((spec_InstrsOk.f k x0).bind fun t205 => (spec_InstrKind.j1 k x0 x1 x5 t205)) else (spec_InstrKind.j1 k x0 x1 x5 false)
def spec_InstrKind.j1 : Nat → List (S90) → Int → Int → Bool → Option (Int)
 | 0, _, _, _, _ => none
 | k + 1, x0, x1, x5, x13 => if x13 = true then (if 0 ≤ x5 then (if x5 < (x0.length : Int) then (if ((rd_T90 x0 x5).f0) = x1 then (some ((rd_T90 x0 x5).f1)) else (spec_InstrKind.l0 k x0 x1 (wrap64 (x5 + 1)))) else (none)) else (none)) else (some 0)
end
def spec_InstrKind.f (k : Nat) (l0 : List (S90)) (a1 : Int) : Option (Int) := spec_InstrKind.l0 k l0 a1 0
def spec_l1Told.f (a0 : Int) (a1 : Bool) : Option (Int × Bool) := if a1 = true then ((spec_AmountOk.f a0).bind fun t208 => (if t208 = true then (some (a0, true)) else (some (0, false)))) else (some (0, false))
mutual
def spec_BalsSum.l0 : Nat → List (S93) → Int → Int → Int → Option (Int × Bool)
 | 0, _, _, _, _ => none
 | k + 1, x0, x1, x6, x7 => if x7 < (x0.length : Int) then ((spec_BalsOk.f k x0).bind fun t209 => (spec_BalsSum.j1 k x0 x1 x6 x7 t209)) else (spec_BalsSum.j1 k x0 x1 x6 x7 false)
def spec_BalsSum.j1 : Nat → List (S93) → Int → Int → Int → Bool → Option (Int × Bool)
 | 0, _, _, _, _, _ => none
 | k + 1, x0, x1, x6, x7, x15 => if x15 = true then (if 0 ≤ x7 then (if x7 < (x0.length : Int) then (if ((rd_T93 x0 x7).f1) = x1 then (spec_BalsSum.l0 k x0 x1 (wrap64 (x6 + ((rd_T93 x0 x7).f2))) (wrap64 (x7 + 1))) else (spec_BalsSum.l0 k x0 x1 x6 (wrap64 (x7 + 1)))) else (none)) else (none)) else ((spec_BalsOk.f k x0).bind fun t212 => ((spec_l1Told.f x6 t212).bind fun bt213 => (some (bt213.1, bt213.2))))
end
def spec_BalsSum.f (k : Nat) (l0 : List (S93)) (a1 : Int) : Option (Int × Bool) := spec_BalsSum.l0 k l0 a1 0 0
end Go.Proofs.Ytmfgajbkcnlkcaa.P
namespace Go.Proofs.Ytmfgajbkcnlkcaa.P
open Go.RowKit Go.Proofs.YtmfgajbkcnlkcaaW.PrintWords Go.Proofs.YtmfgajbkcnlkcaaW.PrintLast Go.Proofs.YtmfgajbkcnlkcaaW.PrintMore
attribute [local go_sem] max2_int min2_int max_two min_two max_three min_three max_four min_four   -- for this text's walks alone
set_option linter.unusedVariables false
set_option linter.unusedSimpArgs false
mutual
def spec_l6Bals.l0 : Nat → Int → List (S88) → List (S90) → List (S93) → List (S96) → List (S50) → Int → Option (Bool)
 | 0, _, _, _, _, _, _, _ => none
 | k + 1, x3, x216000, x216001, x216002, x216003, x216004, x216005 => if x3 < (x216002.length : Int) then (if 0 ≤ x3 then ((spec_AccountKind.f k x216000 ((rd_T93 x216002 x3).f0)).bind fun t218 => (if t218 = 0 then (spec_l6Bals.j1 k x3 true x216000 x216001 x216002 x216003 x216004 x216005 ((rd_T93 x216002 x3).f0) ((rd_T93 x216002 x3).f1) ((rd_T93 x216002 x3).f2)) else ((spec_InstrKind.f k x216001 ((rd_T93 x216002 x3).f1)).bind fun t219 => (if t219 = 0 then (spec_l6Bals.j1 k x3 true x216000 x216001 x216002 x216003 x216004 x216005 ((rd_T93 x216002 x3).f0) ((rd_T93 x216002 x3).f1) ((rd_T93 x216002 x3).f2)) else (if t218 = 1 then (spec_l6Bals.j1 k x3 (decide (((rd_T93 x216002 x3).f2) < 0)) x216000 x216001 x216002 x216003 x216004 x216005 ((rd_T93 x216002 x3).f0) ((rd_T93 x216002 x3).f1) ((rd_T93 x216002 x3).f2)) else (spec_l6Bals.j1 k x3 false x216000 x216001 x216002 x216003 x216004 x216005 ((rd_T93 x216002 x3).f0) ((rd_T93 x216002 x3).f1) ((rd_T93 x216002 x3).f2))))))) else (none)) else (some true)
def spec_l6Bals.j1 : Nat → Int → Bool → List (S88) → List (S90) → List (S93) → List (S96) → List (S50) → Int → Int → Int → Int → Option (Bool)
 | 0, _, _, _, _, _, _, _, _, _, _, _ => none
 | k + 1, x3, x43, x216000, x216001, x216002, x216003, x216004, x216005, x218000, x218001, x218002 => if x43 = true then (some false) else ((spec_BalsSum.f k x216002 x218001).bind fun bt220 => (if bt220.2 = true then (if bt220.1 = 0 then (spec_l6Bals.l0 k (wrap64 (x3 + 1)) x216000 x216001 x216002 x216003 x216004 x216005) else (some false)) else (some false)))
end
def spec_l6Bals.f (k : Nat) (l0_0 : List (S88)) (l0_1 : List (S90)) (l0_2 : List (S93)) (l0_3 : List (S96)) (l0_4 : List (S50)) (a0_5 : Int) : Option (Bool) := spec_l6Bals.l0 k 0 l0_0 l0_1 l0_2 l0_3 l0_4 a0_5
def spec_l5Split.l0 : Nat → List (S96) → Int → Int → List (S96) → List (S96) → Int → Option ((List (S96)) × (List (S96)))
 | 0, _, _, _, _, _, _ => none
 | k + 1, x0, x1, x2, x8, x9, x10 => if x10 < (x0.length : Int) then (if 0 ≤ x10 then (if ((rd_T96 x0 x10).f0) = x1 then (if ((rd_T96 x0 x10).f1) = x2 then (if x8.length < 3518437208883 then (spec_l5Split.l0 k x0 x1 x2 (x8 ++ [(⟨(rd_T96 x0 x10).f0, (rd_T96 x0 x10).f1, (rd_T96 x0 x10).f2, (rd_T96 x0 x10).f3, (rd_T96 x0 x10).f4⟩ : S96)]) x9 (wrap64 (x10 + 1))) else (none)) else (if x9.length < 3518437208883 then (spec_l5Split.l0 k x0 x1 x2 x8 (x9 ++ [(⟨(rd_T96 x0 x10).f0, (rd_T96 x0 x10).f1, (rd_T96 x0 x10).f2, (rd_T96 x0 x10).f3, (rd_T96 x0 x10).f4⟩ : S96)]) (wrap64 (x10 + 1))) else (none))) else (if x9.length < 3518437208883 then (spec_l5Split.l0 k x0 x1 x2 x8 (x9 ++ [(⟨(rd_T96 x0 x10).f0, (rd_T96 x0 x10).f1, (rd_T96 x0 x10).f2, (rd_T96 x0 x10).f3, (rd_T96 x0 x10).f4⟩ : S96)]) (wrap64 (x10 + 1))) else (none))) else (none)) else (some (x8, x9))
def spec_l5Split.f (k : Nat) (l0 : List (S96)) (a1 : Int) (a2 : Int) : Option ((List (S96)) × (List (S96))) := spec_l5Split.l0 k l0 a1 a2 (([] : List (S96))) (([] : List (S96))) 0
def spec_l5Qty.l0 : Nat → List (S96) → Int → Int → Option (Int)
 | 0, _, _, _ => none
 | k + 1, x0, x3, x4 => if x4 < (x0.length : Int) then (if 0 ≤ x4 then (spec_l5Qty.l0 k x0 (wrap64 (x3 + ((rd_T96 x0 x4).f3))) (wrap64 (x4 + 1))) else (none)) else (some x3)
def spec_l5Qty.f (k : Nat) (l0 : List (S96)) : Option (Int) := spec_l5Qty.l0 k l0 0 0
end Go.Proofs.Ytmfgajbkcnlkcaa.P
namespace Go.Proofs.Ytmfgajbkcnlkcaa.P
open Go.RowKit Go.Proofs.YtmfgajbkcnlkcaaW.PrintWords Go.Proofs.YtmfgajbkcnlkcaaW.PrintLast Go.Proofs.YtmfgajbkcnlkcaaW.PrintMore
attribute [local go_sem] max2_int min2_int max_two min_two max_three min_three max_four min_four   -- for this text's walks alone
set_option linter.unusedVariables false
set_option linter.unusedSimpArgs false
def spec_l4Of.l0 : Nat → List (S93) → Int → Int → Int → Option (Int)
 | 0, _, _, _, _ => none
 | k + 1, x0, x1, x2, x7 => if x7 < (x0.length : Int) then (if 0 ≤ x7 then (if ((rd_T93 x0 x7).f0) = x1 then (if ((rd_T93 x0 x7).f1) = x2 then (some ((rd_T93 x0 x7).f2)) else (spec_l4Of.l0 k x0 x1 x2 (wrap64 (x7 + 1)))) else (spec_l4Of.l0 k x0 x1 x2 (wrap64 (x7 + 1)))) else (none)) else (some 0)
def spec_l4Of.f (k : Nat) (l0 : List (S93)) (a1 : Int) (a2 : Int) : Option (Int) := spec_l4Of.l0 k l0 a1 a2 0
end Go.Proofs.Ytmfgajbkcnlkcaa.P
namespace Go.Proofs.Ytmfgajbkcnlkcaa.P
open Go.RowKit Go.Proofs.YtmfgajbkcnlkcaaW.PrintWords Go.Proofs.YtmfgajbkcnlkcaaW.PrintLast Go.Proofs.YtmfgajbkcnlkcaaW.PrintMore
attribute [local go_sem] max2_int min2_int max_two min_two max_three min_three max_four min_four   -- for this text's walks alone
set_option linter.unusedVariables false
set_option linter.unusedSimpArgs false
mutual
def spec_l6Lots.l0 : Nat → Int → List (S88) → List (S90) → List (S93) → List (S96) → List (S50) → Int → Option (Bool)
 | 0, _, _, _, _, _, _, _ => none
 | k + 1, x3, x247000, x247001, x247002, x247003, x247004, x247005 => if x3 < (x247003.length : Int) then (if 0 ≤ x3 then ((spec_AccountKind.f k x247000 ((rd_T96 x247003 x3).f0)).bind fun t249 => (if t249 = 1 then ((spec_InstrKind.f k x247001 ((rd_T96 x247003 x3).f1)).bind fun t250 => (if t250 = 2 then (if ((rd_T96 x247003 x3).f2) > x247005 then (some false) else (spec_l6Lots.l0 k (wrap64 (x3 + 1)) x247000 x247001 x247002 x247003 x247004 x247005)) else (some false))) else (some false))) else (none)) else (spec_l6Lots.l1 k 0 x247000 x247001 x247002 x247003 x247004 x247005)
def spec_l6Lots.l1 : Nat → Int → List (S88) → List (S90) → List (S93) → List (S96) → List (S50) → Int → Option (Bool)
 | 0, _, _, _, _, _, _, _ => none
 | k + 1, x5, x247000, x247001, x247002, x247003, x247004, x247005 => if x5 < (x247000.length : Int) then (spec_l6Lots.l2 k x5 0 x247000 x247001 x247002 x247003 x247004 x247005) else (some true)
def spec_l6Lots.l2 : Nat → Int → Int → List (S88) → List (S90) → List (S93) → List (S96) → List (S50) → Int → Option (Bool)
 | 0, _, _, _, _, _, _, _, _ => none
 | k + 1, x5, x6, x247000, x247001, x247002, x247003, x247004, x247005 => if x6 < (x247001.length : Int) then (if 0 ≤ x5 then (if x5 < (x247000.length : Int) then (if ((rd_T88 x247000 x5).f1) = 1 then (if 0 ≤ x6 then (spec_l6Lots.j3 k x5 x6 (((rd_T90 x247001 x6).f1) == 2) x247000 x247001 x247002 x247003 x247004 x247005) else (none)) else (spec_l6Lots.j3 k x5 x6 false x247000 x247001 x247002 x247003 x247004 x247005)) else (none)) else (none)) else (spec_l6Lots.l1 k (wrap64 (x5 + 1)) x247000 x247001 x247002 x247003 x247004 x247005)
def spec_l6Lots.j3 : Nat → Int → Int → Bool → List (S88) → List (S90) → List (S93) → List (S96) → List (S50) → Int → Option (Bool)
 | 0, _, _, _, _, _, _, _, _, _ => none
 | k + 1, x5, x6, x71, x247000, x247001, x247002, x247003, x247004, x247005 => if x71 = true then (if 0 ≤ x5 then (if x5 < (x247000.length : Int) then (if 0 ≤ x6 then (if x6 < (x247001.length : Int) then ((spec_l5Split.f k x247003 ((rd_T88 x247000 x5).f0) ((rd_T90 x247001 x6).f0)).bind fun bt255 => ((spec_l5Qty.f k bt255.1).bind fun t261 => ((spec_l4Of.f k x247002 ((rd_T88 x247000 x5).f0) ((rd_T90 x247001 x6).f0)).bind fun t264 => (if t261 = t264 then (spec_l6Lots.l2 k x5 (wrap64 (x6 + 1)) x247000 x247001 x247002 x247003 x247004 x247005) else (some false))))) else (none)) else (none)) else (none)) else (none)) else (spec_l6Lots.l2 k x5 (wrap64 (x6 + 1)) x247000 x247001 x247002 x247003 x247004 x247005)
end
def spec_l6Lots.f (k : Nat) (l0_0 : List (S88)) (l0_1 : List (S90)) (l0_2 : List (S93)) (l0_3 : List (S96)) (l0_4 : List (S50)) (a0_5 : Int) : Option (Bool) := spec_l6Lots.l0 k 0 l0_0 l0_1 l0_2 l0_3 l0_4 a0_5
end Go.Proofs.Ytmfgajbkcnlkcaa.P
namespace Go.Proofs.Ytmfgajbkcnlkcaa.P
open Go.RowKit Go.Proofs.YtmfgajbkcnlkcaaW.PrintWords Go.Proofs.YtmfgajbkcnlkcaaW.PrintLast Go.Proofs.YtmfgajbkcnlkcaaW.PrintMore
attribute [local go_sem] max2_int min2_int max_two min_two max_three min_three max_four min_four   -- for this text's walks alone
set_option linter.unusedVariables false
set_option linter.unusedSimpArgs false
mutual
def spec_BooksOk.j0 : Nat → Bool → List (S88) → List (S90) → List (S93) → List (S96) → List (S50) → Int → Option (Bool)
 | 0, _, _, _, _, _, _, _ => none
 | k + 1, x48, x266000, x266001, x266002, x266003, x266004, x266005 => if x48 = true then (some false) else (spec_BooksOk.l0 k 0 x266000 x266001 x266002 x266003 x266004 x266005)
def spec_BooksOk.l0 : Nat → Int → List (S88) → List (S90) → List (S93) → List (S96) → List (S50) → Int → Option (Bool)
 | 0, _, _, _, _, _, _, _ => none
 | k + 1, x3, x266000, x266001, x266002, x266003, x266004, x266005 => if x3 < (x266004.length : Int) then (if 0 ≤ x3 then ((spec_AccountKind.f k x266000 ((rd_T50 x266004 x3).f1)).bind fun t276 => (if t276 = 1 then ((spec_AccountKind.f k x266000 ((rd_T50 x266004 x3).f2)).bind fun t277 => (if t277 = 1 then ((spec_InstrKind.f k x266001 ((rd_T50 x266004 x3).f3)).bind fun t278 => (if t278 = 2 then ((spec_InstrKind.f k x266001 ((rd_T50 x266004 x3).f5)).bind fun t279 => (if t279 = 1 then (spec_BooksOk.l0 k (wrap64 (x3 + 1)) x266000 x266001 x266002 x266003 x266004 x266005) else (some false))) else (some false))) else (some false))) else (some false))) else (none)) else (some true)
end
def spec_BooksOk.f (k : Nat) (l0_0 : List (S88)) (l0_1 : List (S90)) (l0_2 : List (S93)) (l0_3 : List (S96)) (l0_4 : List (S50)) (a0_5 : Int) : Option (Bool) := (spec_AccountsOk.f k l0_0).bind fun t266 => (if t266 = true then ((spec_InstrsOk.f k l0_1).bind fun t267 => (if t267 = true then ((spec_BalsOk.f k l0_2).bind fun t268 => (if t268 = true then ((spec_LotsOk.f k l0_3).bind fun t269 => (if t269 = true then ((spec_TradesOk.f k l0_4).bind fun t270 => (if t270 = true then ((spec_l1In.f a0_5 0 1000000000).bind fun t271 => (if t271 = true then ((spec_l6Bals.f k l0_0 l0_1 l0_2 l0_3 l0_4 a0_5).bind fun t272 => (if t272 = true then ((spec_l6Lots.f k l0_0 l0_1 l0_2 l0_3 l0_4 a0_5).bind fun t273 => (spec_BooksOk.j0 k (!t273) l0_0 l0_1 l0_2 l0_3 l0_4 a0_5)) else (spec_BooksOk.j0 k true l0_0 l0_1 l0_2 l0_3 l0_4 a0_5))) else (spec_BooksOk.j0 k true l0_0 l0_1 l0_2 l0_3 l0_4 a0_5))) else (spec_BooksOk.j0 k true l0_0 l0_1 l0_2 l0_3 l0_4 a0_5))) else (spec_BooksOk.j0 k true l0_0 l0_1 l0_2 l0_3 l0_4 a0_5))) else (spec_BooksOk.j0 k true l0_0 l0_1 l0_2 l0_3 l0_4 a0_5))) else (spec_BooksOk.j0 k true l0_0 l0_1 l0_2 l0_3 l0_4 a0_5))) else (spec_BooksOk.j0 k true l0_0 l0_1 l0_2 l0_3 l0_4 a0_5))
end Go.Proofs.Ytmfgajbkcnlkcaa.P
namespace Go.Proofs.Ytmfgajbkcnlkcaa.P
open Go.RowKit Go.Proofs.YtmfgajbkcnlkcaaW.PrintWords Go.Proofs.YtmfgajbkcnlkcaaW.PrintLast Go.Proofs.YtmfgajbkcnlkcaaW.PrintMore
attribute [local go_sem] max2_int min2_int max_two min_two max_three min_three max_four min_four   -- for this text's walks alone
set_option linter.unusedVariables false
set_option linter.unusedSimpArgs false
mutual
def impl_TradesOk.l0 : Nat → List (S50) → List (S50) → Int → Int → Option (Bool)
 | 0, _, _, _, _ => none
 | k + 1, x0, x5, x6, x7 => if x7 < x6 then (if 0 ≤ x7 then (if x7 < (x5.length : Int) then ((impl_isNo.f ((rd_T50 x5 x7).f0)).bind fun t361 => (if t361 = true then ((impl_isNo.f ((rd_T50 x5 x7).f1)).bind fun t362 => (if t362 = true then ((impl_isNo.f ((rd_T50 x5 x7).f2)).bind fun t363 => (if t363 = true then ((impl_isNo.f ((rd_T50 x5 x7).f3)).bind fun t364 => (if t364 = true then ((impl_isNo.f ((rd_T50 x5 x7).f5)).bind fun t365 => (if t365 = true then (impl_TradesOk.j1 k x0 x7 x5 x6 x7 (((rd_T50 x5 x7).f1) == ((rd_T50 x5 x7).f2)) ((rd_T50 x5 x7).f0) ((rd_T50 x5 x7).f1) ((rd_T50 x5 x7).f2) ((rd_T50 x5 x7).f3) ((rd_T50 x5 x7).f4) ((rd_T50 x5 x7).f5) ((rd_T50 x5 x7).f6) ((rd_T50 x5 x7).f7)) else (impl_TradesOk.j1 k x0 x7 x5 x6 x7 true ((rd_T50 x5 x7).f0) ((rd_T50 x5 x7).f1) ((rd_T50 x5 x7).f2) ((rd_T50 x5 x7).f3) ((rd_T50 x5 x7).f4) ((rd_T50 x5 x7).f5) ((rd_T50 x5 x7).f6) ((rd_T50 x5 x7).f7)))) else (impl_TradesOk.j1 k x0 x7 x5 x6 x7 true ((rd_T50 x5 x7).f0) ((rd_T50 x5 x7).f1) ((rd_T50 x5 x7).f2) ((rd_T50 x5 x7).f3) ((rd_T50 x5 x7).f4) ((rd_T50 x5 x7).f5) ((rd_T50 x5 x7).f6) ((rd_T50 x5 x7).f7)))) else (impl_TradesOk.j1 k x0 x7 x5 x6 x7 true ((rd_T50 x5 x7).f0) ((rd_T50 x5 x7).f1) ((rd_T50 x5 x7).f2) ((rd_T50 x5 x7).f3) ((rd_T50 x5 x7).f4) ((rd_T50 x5 x7).f5) ((rd_T50 x5 x7).f6) ((rd_T50 x5 x7).f7)))) else (impl_TradesOk.j1 k x0 x7 x5 x6 x7 true ((rd_T50 x5 x7).f0) ((rd_T50 x5 x7).f1) ((rd_T50 x5 x7).f2) ((rd_T50 x5 x7).f3) ((rd_T50 x5 x7).f4) ((rd_T50 x5 x7).f5) ((rd_T50 x5 x7).f6) ((rd_T50 x5 x7).f7)))) else (impl_TradesOk.j1 k x0 x7 x5 x6 x7 true ((rd_T50 x5 x7).f0) ((rd_T50 x5 x7).f1) ((rd_T50 x5 x7).f2) ((rd_T50 x5 x7).f3) ((rd_T50 x5 x7).f4) ((rd_T50 x5 x7).f5) ((rd_T50 x5 x7).f6) ((rd_T50 x5 x7).f7)))) else (none)) else (none)) else (some (decide ((x0.length : Int) ≤ 30)))
def impl_TradesOk.j1 : Nat → List (S50) → Int → List (S50) → Int → Int → Bool → Int → Int → Int → Int → Int → Int → Int → Int → Option (Bool)
 | 0, _, _, _, _, _, _, _, _, _, _, _, _, _, _ => none
 | k + 1, x0, x3, x5, x6, x7, x46, x361000, x361001, x361002, x361003, x361004, x361005, x361006, x361007 => if x46 = true then (some false) else ((impl_in.f x361004 1 1000000000000000).bind fun t366 => (if t366 = true then ((impl_in.f x361006 0 1000000000000000).bind fun t367 => (if t367 = true then ((impl_in.f x361007 1 3).bind fun t368 => (if t368 = true then (if x3 > 0 then (if 0 ≤ (wrap64 (x3 - 1)) then (if (wrap64 (x3 - 1)) < (x0.length : Int) then (if ((rd_T50 x0 (wrap64 (x3 - 1))).f0) ≥ x361000 then (some false) else (impl_TradesOk.l0 k x0 x5 x6 (wrap64 (x7 + 1)))) else (none)) else (none)) else (impl_TradesOk.l0 k x0 x5 x6 (wrap64 (x7 + 1)))) else (some false))) else (some false))) else (some false)))
end
def impl_TradesOk.f (k : Nat) (l0 : List (S50)) : Option (Bool) := impl_TradesOk.l0 k l0 l0 (l0.length : Int) 0
end Go.Proofs.Ytmfgajbkcnlkcaa.P
namespace Go.Proofs.Ytmfgajbkcnlkcaa.P
open Go.RowKit Go.Proofs.YtmfgajbkcnlkcaaW.PrintWords Go.Proofs.YtmfgajbkcnlkcaaW.PrintLast Go.Proofs.YtmfgajbkcnlkcaaW.PrintMore
attribute [local go_sem] max2_int min2_int max_two min_two max_three min_three max_four min_four   -- for this text's walks alone
set_option linter.unusedVariables false
set_option linter.unusedSimpArgs false
def impl_AccountsOk.l0 : Nat → List (S88) → List (S88) → Int → Int → Option (Bool)
 | 0, _, _, _, _ => none
 | k + 1, x0, x5, x6, x7 => if x7 < x6 then (if 0 ≤ x7 then (if x7 < (x5.length : Int) then ((impl_isNo.f ((rd_T88 x5 x7).f0)).bind fun t372 => (if t372 = true then ((impl_in.f ((rd_T88 x5 x7).f1) 1 4).bind fun t373 => (if t373 = true then (if x7 > 0 then (if 0 ≤ (wrap64 (x7 - 1)) then (if (wrap64 (x7 - 1)) < (x0.length : Int) then (if ((rd_T88 x0 (wrap64 (x7 - 1))).f0) ≥ ((rd_T88 x5 x7).f0) then (some false) else (impl_AccountsOk.l0 k x0 x5 x6 (wrap64 (x7 + 1)))) else (none)) else (none)) else (impl_AccountsOk.l0 k x0 x5 x6 (wrap64 (x7 + 1)))) else (some false))) else (some false))) else (none)) else (none)) else (some (decide ((x0.length : Int) ≤ 20)))
def impl_AccountsOk.f (k : Nat) (l0 : List (S88)) : Option (Bool) := impl_AccountsOk.l0 k l0 l0 (l0.length : Int) 0
def impl_InstrsOk.l0 : Nat → List (S90) → List (S90) → Int → Int → Option (Bool)
 | 0, _, _, _, _ => none
 | k + 1, x0, x5, x6, x7 => if x7 < x6 then (if 0 ≤ x7 then (if x7 < (x5.length : Int) then ((impl_isNo.f ((rd_T90 x5 x7).f0)).bind fun t377 => (if t377 = true then ((impl_in.f ((rd_T90 x5 x7).f1) 1 2).bind fun t378 => (if t378 = true then (if x7 > 0 then (if 0 ≤ (wrap64 (x7 - 1)) then (if (wrap64 (x7 - 1)) < (x0.length : Int) then (if ((rd_T90 x0 (wrap64 (x7 - 1))).f0) ≥ ((rd_T90 x5 x7).f0) then (some false) else (impl_InstrsOk.l0 k x0 x5 x6 (wrap64 (x7 + 1)))) else (none)) else (none)) else (impl_InstrsOk.l0 k x0 x5 x6 (wrap64 (x7 + 1)))) else (some false))) else (some false))) else (none)) else (none)) else (some (decide ((x0.length : Int) ≤ 8)))
def impl_InstrsOk.f (k : Nat) (l0 : List (S90)) : Option (Bool) := impl_InstrsOk.l0 k l0 l0 (l0.length : Int) 0
def impl_AmountOk.f (a0 : Int) : Option (Bool) := (impl_in.f a0 (-1000000000000000) 1000000000000000).bind fun t380 => (some t380)
theorem impl_AmountOk.calls (a0 : Int) (r : Bool) (w : World) (h : impl_AmountOk.f a0 = some r) :
 Calls Try.prog 91 #[.int .i64 a0] w fun e w' => e = .returned (.bool r) ∧ Drawn0 w w' := by
 have H : ((impl_in.f a0 (-1000000000000000) 1000000000000000).bind fun t380 => (some t380)) = some r := h
 clear h
 replace H := Option.bind_eq_some_iff.mp H
 obtain ⟨t380, A20, H⟩ := H
 replace H : (some t380) = some r := H
 have A2 := Aside0.mk A20
 clear A20
 obtain rfl := Option.some.inj H
 go_enter Try.func91, Try.ntmps91
 go_wp2_with (first | ((with_reducible refine gate_callee (f := 35) rfl ?_); refine goesL_ (some 4) rfl rfl Try.func35 (by kernel_rfl) rfl #[.int .i64 a0, .int .i64 (-1000000000000000), .int .i64 1000000000000000] rfl (by (try simp only [List.map_toArray, List.map_cons, List.map_nil]); first | done | rfl | (simp only [List.length_drop, List.length_take]; rfl)) ?_; (with_reducible refine (impl_in.calls a0 (-1000000000000000) 1000000000000000 t380 _ A2.out).mono ?_); rintro e w' ⟨rfl, ⟨nd, rfl⟩⟩; refine ⟨_, rfl, ?_⟩))
 go_ret
 exact ⟨by first | rfl | (simp; done) | (simp [*]; done), by repeat (first | exact Drawn0.refl _ | apply Drawn0.step)⟩
def impl_byBoth.j0 : Nat → Int → Int → Int → Int → Bool → Option (Int)
 | 0, _, _, _, _, _ => none
 | k + 1, x0, x1, x2, x3, x9 => if x9 = true then (some (-1)) else (if x0 = x2 then (if x1 = x3 then (some 0) else (some 1)) else (some 1))
def impl_byBoth.f (k : Nat) (a0 : Int) (a1 : Int) (a2 : Int) (a3 : Int) : Option (Int) := if a0 < a2 then (impl_byBoth.j0 k a0 a1 a2 a3 true) else (if a0 = a2 then (impl_byBoth.j0 k a0 a1 a2 a3 (decide (a1 < a3))) else (impl_byBoth.j0 k a0 a1 a2 a3 false))
theorem impl_byBoth.calls (k : Nat) (a0 : Int) (a1 : Int) (a2 : Int) (a3 : Int) (r : Int) (w : World) (h : impl_byBoth.f k a0 a1 a2 a3 = some r) :
 Calls Try.prog 92 #[.int .i64 a0, .int .i64 a1, .int .i64 a2, .int .i64 a3] w fun e w' => e = .returned (.int .i64 r) ∧ Drawn0 w w' := by
 have H : (if a0 < a2 then (impl_byBoth.j0 k a0 a1 a2 a3 true) else (if a0 = a2 then (impl_byBoth.j0 k a0 a1 a2 a3 (decide (a1 < a3))) else (impl_byBoth.j0 k a0 a1 a2 a3 false))) = some r := h
 clear h
 have HC5 := Aside0.mk H
 clear H
 go_enter Try.func92, Try.ntmps92
 go_upto_region 1 with (fail)
 go_cut [9] (fun v9 wc => ∃ (kq : Nat) (x9_4 : Bool), v9 = .bool x9_4 ∧ Aside0 (impl_byBoth.j0 kq a0 a1 a2 a3 x9_4 = some r) ∧ Aside0 (kq ≤ k) ∧ Drawn0 w wc)
 case first =>
  have H := HC5.out
  clear HC5
  by_cases c6 : a0 < a2
  ·
   rw [if_pos c6] at H
   have c6b0 : decide (a0 < a2) = true := decide_eq_true c6
   clear c6
   (first | rw [c6b0] | (simp only [i64_w, i32_w]; rw [c6b0]) | skip)
   have H' := Aside0.mk H
   clear H
   go_wp2
   go_meet
   case rel => exact ⟨_, (true), (by first | rfl | (simp; done) | (simp [*]; done)), H', ⟨by first | omega | exact Nat.le_refl _⟩, by repeat (first | exact Drawn0.refl _ | apply Drawn0.step)⟩
  ·
   rw [if_neg c6] at H
   have c6b0 : decide (a0 < a2) = false := decide_eq_false c6
   clear c6
   (first | rw [c6b0] | (simp only [i64_w, i32_w]; rw [c6b0]) | skip)
   by_cases c7 : a0 = a2
   ·
    rw [if_pos c7] at H
    have c7b0 : (a0 == a2) = true := beq_iff_eq.mpr c7
    have c7b1 : (a0 != a2) = false := bne_eq_false_iff_eq.mpr c7
    clear c7
    have H' := Aside0.mk H
    clear H
    go_wp2
    go_meet
    case rel => exact ⟨_, (decide (a1 < a3)), (by first | rfl | (simp; done) | (simp [*]; done)), H', ⟨by first | omega | exact Nat.le_refl _⟩, by repeat (first | exact Drawn0.refl _ | apply Drawn0.step)⟩
   ·
    rw [if_neg c7] at H
    have c7b0 : (a0 == a2) = false := beq_eq_false_iff_ne.mpr c7
    have c7b1 : (a0 != a2) = true := bne_iff_ne.mpr c7
    have H' := Aside0.mk H
    clear H
    go_wp2
    go_meet
    case rel => exact ⟨_, (false), (by first | rfl | (simp; done) | (simp [*]; done)), H', ⟨by first | omega | exact Nat.le_refl _⟩, by repeat (first | exact Drawn0.refl _ | apply Drawn0.step)⟩
 case rest =>
  clear HC5
  try clear p2
  try clear c6
  try clear c6b0
  try clear c7
  try clear c7b0
  try clear c7b1
  obtain ⟨kq, x9_4, rfl, HA, HJ4, ⟨mc4, rfl⟩⟩ := hcut
  cases kq with
  | zero => exact absurd HA.out (by simp [impl_byBoth.j0])
  | succ kj4 =>
   have H := HA.out
   clear HA
   simp only [impl_byBoth.j0] at H
   by_cases c8 : x9_4 = true
   ·
    subst c8
    have H1 : (some (-1)) = some r := by rw [if_pos rfl] at H; exact H
    clear H
    have H := H1
    clear H1
    obtain rfl := Option.some.inj H
    go_wp2
    go_ret
    exact ⟨by first | rfl | (simp; done) | (simp [*]; done), by repeat (first | exact Drawn0.refl _ | apply Drawn0.step)⟩
   ·
    replace c8 := Bool.eq_false_iff.mpr c8
    subst c8
    have H1 : (if a0 = a2 then (if a1 = a3 then (some 0) else (some 1)) else (some 1)) = some r := by rw [if_neg (show ¬ (false = true) by decide)] at H; exact H
    clear H
    have H := H1
    clear H1
    by_cases c9 : a0 = a2
    ·
     rw [if_pos c9] at H
     have c9b0 : (a0 == a2) = true := beq_iff_eq.mpr c9
     have c9b1 : (a0 != a2) = false := bne_eq_false_iff_eq.mpr c9
     clear c9
     by_cases c10 : a1 = a3
     ·
      rw [if_pos c10] at H
      have c10b0 : (a1 == a3) = true := beq_iff_eq.mpr c10
      have c10b1 : (a1 != a3) = false := bne_eq_false_iff_eq.mpr c10
      clear c10
      obtain rfl := Option.some.inj H
      go_wp2
      go_ret
      exact ⟨by first | rfl | (simp; done) | (simp [*]; done), by repeat (first | exact Drawn0.refl _ | apply Drawn0.step)⟩
     ·
      rw [if_neg c10] at H
      have c10b0 : (a1 == a3) = false := beq_eq_false_iff_ne.mpr c10
      have c10b1 : (a1 != a3) = true := bne_iff_ne.mpr c10
      obtain rfl := Option.some.inj H
      go_wp2
      go_ret
      exact ⟨by first | rfl | (simp; done) | (simp [*]; done), by repeat (first | exact Drawn0.refl _ | apply Drawn0.step)⟩
    ·
     rw [if_neg c9] at H
     have c9b0 : (a0 == a2) = false := beq_eq_false_iff_ne.mpr c9
     have c9b1 : (a0 != a2) = true := bne_iff_ne.mpr c9
     obtain rfl := Option.some.inj H
     go_wp2
     go_ret
     exact ⟨by first | rfl | (simp; done) | (simp [*]; done), by repeat (first | exact Drawn0.refl _ | apply Drawn0.step)⟩
end Go.Proofs.Ytmfgajbkcnlkcaa.P
namespace Go.Proofs.Ytmfgajbkcnlkcaa.P
open Go.RowKit Go.Proofs.YtmfgajbkcnlkcaaW.PrintWords Go.Proofs.YtmfgajbkcnlkcaaW.PrintLast Go.Proofs.YtmfgajbkcnlkcaaW.PrintMore
attribute [local go_sem] max2_int min2_int max_two min_two max_three min_three max_four min_four   -- for this text's walks alone
set_option linter.unusedVariables false
set_option linter.unusedSimpArgs false
mutual
def impl_BalsOk.l0 : Nat → List (S93) → List (S93) → Int → Int → Option (Bool)
 | 0, _, _, _, _ => none
 | k + 1, x0, x5, x6, x7 => if x7 < x6 then (if 0 ≤ x7 then (if x7 < (x5.length : Int) then ((impl_isNo.f ((rd_T93 x5 x7).f0)).bind fun t383 => (if t383 = true then ((impl_isNo.f ((rd_T93 x5 x7).f1)).bind fun t384 => (if t384 = true then ((impl_AmountOk.f ((rd_T93 x5 x7).f2)).bind fun t385 => (if t385 = true then (impl_BalsOk.j1 k x0 x7 x5 x6 x7 (((rd_T93 x5 x7).f2) == 0) ((rd_T93 x5 x7).f0) ((rd_T93 x5 x7).f1) ((rd_T93 x5 x7).f2)) else (impl_BalsOk.j1 k x0 x7 x5 x6 x7 true ((rd_T93 x5 x7).f0) ((rd_T93 x5 x7).f1) ((rd_T93 x5 x7).f2)))) else (impl_BalsOk.j1 k x0 x7 x5 x6 x7 true ((rd_T93 x5 x7).f0) ((rd_T93 x5 x7).f1) ((rd_T93 x5 x7).f2)))) else (impl_BalsOk.j1 k x0 x7 x5 x6 x7 true ((rd_T93 x5 x7).f0) ((rd_T93 x5 x7).f1) ((rd_T93 x5 x7).f2)))) else (none)) else (none)) else (some (decide ((x0.length : Int) ≤ 160)))
def impl_BalsOk.j1 : Nat → List (S93) → Int → List (S93) → Int → Int → Bool → Int → Int → Int → Option (Bool)
 | 0, _, _, _, _, _, _, _, _, _ => none
 | k + 1, x0, x3, x5, x6, x7, x32, x383000, x383001, x383002 => if x32 = true then (some false) else (if x3 > 0 then (if 0 ≤ (wrap64 (x3 - 1)) then (if (wrap64 (x3 - 1)) < (x0.length : Int) then ((impl_byBoth.f k ((rd_T93 x0 (wrap64 (x3 - 1))).f0) ((rd_T93 x0 (wrap64 (x3 - 1))).f1) x383000 x383001).bind fun t388 => (if t388 ≥ 0 then (some false) else (impl_BalsOk.l0 k x0 x5 x6 (wrap64 (x7 + 1))))) else (none)) else (none)) else (impl_BalsOk.l0 k x0 x5 x6 (wrap64 (x7 + 1))))
end
def impl_BalsOk.f (k : Nat) (l0 : List (S93)) : Option (Bool) := impl_BalsOk.l0 k l0 l0 (l0.length : Int) 0
def impl_lotForm.f (a0_0 : Int) (a0_1 : Int) (a0_2 : Int) (a0_3 : Int) (a0_4 : Int) : Option (Bool) := (impl_isNo.f a0_0).bind fun t390 => (if t390 = true then ((impl_isNo.f a0_1).bind fun t391 => (if t391 = true then ((impl_in.f a0_2 1 1000000000).bind fun t392 => (if t392 = true then ((impl_in.f a0_3 1 1000000000000000).bind fun t393 => (if t393 = true then ((impl_in.f a0_4 0 1000000000000000).bind fun t394 => (some t394)) else (some false))) else (some false))) else (some false))) else (some false))
theorem impl_lotForm.calls (a0_0 : Int) (a0_1 : Int) (a0_2 : Int) (a0_3 : Int) (a0_4 : Int) (r : Bool) (w : World) (h : impl_lotForm.f a0_0 a0_1 a0_2 a0_3 a0_4 = some r) :
 Calls Try.prog 93 #[.agg #[.int .i64 a0_0, .int .i64 a0_1, .int .i64 a0_2, .int .i64 a0_3, .int .i64 a0_4]] w fun e w' => e = .returned (.bool r) ∧ Below w.heap.size w w' := by
 have hu96 := Try.underlying96
 have HB := Aside0.mk (Below.refl w.heap.size w)
 have H : ((impl_isNo.f a0_0).bind fun t390 => (if t390 = true then ((impl_isNo.f a0_1).bind fun t391 => (if t391 = true then ((impl_in.f a0_2 1 1000000000).bind fun t392 => (if t392 = true then ((impl_in.f a0_3 1 1000000000000000).bind fun t393 => (if t393 = true then ((impl_in.f a0_4 0 1000000000000000).bind fun t394 => (some t394)) else (some false))) else (some false))) else (some false))) else (some false))) = some r := h
 clear h
 replace H := Option.bind_eq_some_iff.mp H
 obtain ⟨t390, A20, H⟩ := H
 replace H : (if t390 = true then ((impl_isNo.f a0_1).bind fun t391 => (if t391 = true then ((impl_in.f a0_2 1 1000000000).bind fun t392 => (if t392 = true then ((impl_in.f a0_3 1 1000000000000000).bind fun t393 => (if t393 = true then ((impl_in.f a0_4 0 1000000000000000).bind fun t394 => (some t394)) else (some false))) else (some false))) else (some false))) else (some false)) = some r := H
 have A2 := Aside0.mk A20
 clear A20
 by_cases c3 : t390 = true
 ·
  subst c3
  have H1 : ((impl_isNo.f a0_1).bind fun t391 => (if t391 = true then ((impl_in.f a0_2 1 1000000000).bind fun t392 => (if t392 = true then ((impl_in.f a0_3 1 1000000000000000).bind fun t393 => (if t393 = true then ((impl_in.f a0_4 0 1000000000000000).bind fun t394 => (some t394)) else (some false))) else (some false))) else (some false))) = some r := by rw [if_pos rfl] at H; exact H
  clear H
  have H := H1
  clear H1
  replace H := Option.bind_eq_some_iff.mp H
  obtain ⟨t391, A40, H⟩ := H
  replace H : (if t391 = true then ((impl_in.f a0_2 1 1000000000).bind fun t392 => (if t392 = true then ((impl_in.f a0_3 1 1000000000000000).bind fun t393 => (if t393 = true then ((impl_in.f a0_4 0 1000000000000000).bind fun t394 => (some t394)) else (some false))) else (some false))) else (some false)) = some r := H
  have A4 := Aside0.mk A40
  clear A40
  by_cases c5 : t391 = true
  ·
   subst c5
   have H1 : ((impl_in.f a0_2 1 1000000000).bind fun t392 => (if t392 = true then ((impl_in.f a0_3 1 1000000000000000).bind fun t393 => (if t393 = true then ((impl_in.f a0_4 0 1000000000000000).bind fun t394 => (some t394)) else (some false))) else (some false))) = some r := by rw [if_pos rfl] at H; exact H
   clear H
   have H := H1
   clear H1
   replace H := Option.bind_eq_some_iff.mp H
   obtain ⟨t392, A60, H⟩ := H
   replace H : (if t392 = true then ((impl_in.f a0_3 1 1000000000000000).bind fun t393 => (if t393 = true then ((impl_in.f a0_4 0 1000000000000000).bind fun t394 => (some t394)) else (some false))) else (some false)) = some r := H
   have A6 := Aside0.mk A60
   clear A60
   by_cases c7 : t392 = true
   ·
    subst c7
    have H1 : ((impl_in.f a0_3 1 1000000000000000).bind fun t393 => (if t393 = true then ((impl_in.f a0_4 0 1000000000000000).bind fun t394 => (some t394)) else (some false))) = some r := by rw [if_pos rfl] at H; exact H
    clear H
    have H := H1
    clear H1
    replace H := Option.bind_eq_some_iff.mp H
    obtain ⟨t393, A80, H⟩ := H
    replace H : (if t393 = true then ((impl_in.f a0_4 0 1000000000000000).bind fun t394 => (some t394)) else (some false)) = some r := H
    have A8 := Aside0.mk A80
    clear A80
    by_cases c9 : t393 = true
    ·
     subst c9
     have H1 : ((impl_in.f a0_4 0 1000000000000000).bind fun t394 => (some t394)) = some r := by rw [if_pos rfl] at H; exact H
     clear H
     have H := H1
     clear H1
     replace H := Option.bind_eq_some_iff.mp H
     obtain ⟨t394, A100, H⟩ := H
     replace H : (some t394) = some r := H
     have A10 := Aside0.mk A100
     clear A100
     obtain rfl := Option.some.inj H
     go_enter Try.func93, Try.ntmps93
     go_wp2_with (first | ((with_reducible refine gate_dst (N := 1) rfl ?_); refine box_event ?hg (N := 1) ?hd (cs := #[.int .i64 a0_0, .int .i64 a0_1, .int .i64 a0_2, .int .i64 a0_3, .int .i64 a0_4]) (t := 96) ?hr ?_; (case hd => rfl); (case hg => rfl); (case hr => first | (go_simp; done) | (go_simp; rfl)); intro gb389 hg w11 hbox hb; have n0_ := Aside0.mk (below_step (by repeat (first | (with_reducible first | exact HB.out | apply below_alloc | apply pw_below_drewN | apply below_drew1) | exact HB.out)) hb); have n1_ := Aside0.mk (hbox); have n2_ := Aside0.mk ((by rw [hg]; exact (below_size (by repeat (first | (with_reducible first | exact HB.out | apply below_alloc | apply pw_below_drewN | apply below_drew1) | exact HB.out))) : w.heap.size ≤ gb389)); have n3_ := Aside0.mk ((by rw [hg]; exact (below_size (by repeat (first | (with_reducible first | exact HB.out | apply below_alloc | apply pw_below_drewN | apply below_drew1) | exact HB.out))) : w.heap.size ≤ gb389)); clear HB; have HB := n0_; have BK389 := n1_; have GW389 := n2_; have GE389 := n3_; clear n0_ n1_ n2_ n3_; clear hb hbox hg; have hcz12_0 : w11.cell? ⟨gb389, 0, none⟩ = some (.int .i64 a0_0) := (blk_cell BK389.out 0).trans rfl; have hcz12_1 : w11.cell? ⟨gb389, 1, none⟩ = some (.int .i64 a0_1) := (blk_cell BK389.out 1).trans rfl; have hcz12_2 : w11.cell? ⟨gb389, 2, none⟩ = some (.int .i64 a0_2) := (blk_cell BK389.out 2).trans rfl; have hcz12_3 : w11.cell? ⟨gb389, 3, none⟩ = some (.int .i64 a0_3) := (blk_cell BK389.out 3).trans rfl; have hcz12_4 : w11.cell? ⟨gb389, 4, none⟩ = some (.int .i64 a0_4) := (blk_cell BK389.out 4).trans rfl; have hfz12_0 := blk_frozen BK389.out 0; have hfz12_1 := blk_frozen BK389.out 1; have hfz12_2 := blk_frozen BK389.out 2; have hfz12_3 := blk_frozen BK389.out 3; have hfz12_4 := blk_frozen BK389.out 4) | ((with_reducible refine gate_callee (f := 34) rfl ?_); refine goesL_ (some 5) rfl rfl Try.func34 (by kernel_rfl) rfl #[.int .i64 a0_0] rfl (by (try simp only [List.map_toArray, List.map_cons, List.map_nil]); first | done | rfl | (simp only [List.length_drop, List.length_take]; rfl)) ?_; (with_reducible refine (impl_isNo.calls a0_0 true _ A2.out).mono ?_); rintro e w' ⟨rfl, ⟨nd, rfl⟩⟩; refine ⟨_, rfl, ?_⟩) | (go_at_call 34; (with_reducible refine (impl_isNo.calls a0_1 true _ A4.out).mono ?_); rintro e w' ⟨rfl, ⟨nd, rfl⟩⟩) | (go_at_call 35; (with_reducible refine (impl_in.calls a0_2 1 1000000000 true _ A6.out).mono ?_); rintro e w' ⟨rfl, ⟨nd, rfl⟩⟩) | (go_at_call 35; (with_reducible refine (impl_in.calls a0_3 1 1000000000000000 true _ A8.out).mono ?_); rintro e w' ⟨rfl, ⟨nd, rfl⟩⟩) | (go_at_call 35; (with_reducible refine (impl_in.calls a0_4 0 1000000000000000 t394 _ A10.out).mono ?_); rintro e w' ⟨rfl, ⟨nd, rfl⟩⟩))
     go_ret
     exact ⟨by first | rfl | (simp [errW_none, errW_some] <;> rfl) | (simp [*, errW_none, errW_some] <;> rfl), by repeat (first | (with_reducible first | exact HB.out | apply below_alloc | apply pw_below_drewN | apply below_drew1 | refine below_set ?_ GE389.out) | exact HB.out)⟩
    ·
     replace c9 := Bool.eq_false_iff.mpr c9
     subst c9
     have H1 : (some false) = some r := by rw [if_neg (show ¬ (false = true) by decide)] at H; exact H
     clear H
     have H := H1
     clear H1
     obtain rfl := Option.some.inj H
     go_enter Try.func93, Try.ntmps93
     go_wp2_with (first | ((with_reducible refine gate_dst (N := 1) rfl ?_); refine box_event ?hg (N := 1) ?hd (cs := #[.int .i64 a0_0, .int .i64 a0_1, .int .i64 a0_2, .int .i64 a0_3, .int .i64 a0_4]) (t := 96) ?hr ?_; (case hd => rfl); (case hg => rfl); (case hr => first | (go_simp; done) | (go_simp; rfl)); intro gb389 hg w13 hbox hb; have n0_ := Aside0.mk (below_step (by repeat (first | (with_reducible first | exact HB.out | apply below_alloc | apply pw_below_drewN | apply below_drew1) | exact HB.out)) hb); have n1_ := Aside0.mk (hbox); have n2_ := Aside0.mk ((by rw [hg]; exact (below_size (by repeat (first | (with_reducible first | exact HB.out | apply below_alloc | apply pw_below_drewN | apply below_drew1) | exact HB.out))) : w.heap.size ≤ gb389)); have n3_ := Aside0.mk ((by rw [hg]; exact (below_size (by repeat (first | (with_reducible first | exact HB.out | apply below_alloc | apply pw_below_drewN | apply below_drew1) | exact HB.out))) : w.heap.size ≤ gb389)); clear HB; have HB := n0_; have BK389 := n1_; have GW389 := n2_; have GE389 := n3_; clear n0_ n1_ n2_ n3_; clear hb hbox hg; have hcz14_0 : w13.cell? ⟨gb389, 0, none⟩ = some (.int .i64 a0_0) := (blk_cell BK389.out 0).trans rfl; have hcz14_1 : w13.cell? ⟨gb389, 1, none⟩ = some (.int .i64 a0_1) := (blk_cell BK389.out 1).trans rfl; have hcz14_2 : w13.cell? ⟨gb389, 2, none⟩ = some (.int .i64 a0_2) := (blk_cell BK389.out 2).trans rfl; have hcz14_3 : w13.cell? ⟨gb389, 3, none⟩ = some (.int .i64 a0_3) := (blk_cell BK389.out 3).trans rfl; have hcz14_4 : w13.cell? ⟨gb389, 4, none⟩ = some (.int .i64 a0_4) := (blk_cell BK389.out 4).trans rfl; have hfz14_0 := blk_frozen BK389.out 0; have hfz14_1 := blk_frozen BK389.out 1; have hfz14_2 := blk_frozen BK389.out 2; have hfz14_3 := blk_frozen BK389.out 3; have hfz14_4 := blk_frozen BK389.out 4) | ((with_reducible refine gate_callee (f := 34) rfl ?_); refine goesL_ (some 5) rfl rfl Try.func34 (by kernel_rfl) rfl #[.int .i64 a0_0] rfl (by (try simp only [List.map_toArray, List.map_cons, List.map_nil]); first | done | rfl | (simp only [List.length_drop, List.length_take]; rfl)) ?_; (with_reducible refine (impl_isNo.calls a0_0 true _ A2.out).mono ?_); rintro e w' ⟨rfl, ⟨nd, rfl⟩⟩; refine ⟨_, rfl, ?_⟩) | (go_at_call 34; (with_reducible refine (impl_isNo.calls a0_1 true _ A4.out).mono ?_); rintro e w' ⟨rfl, ⟨nd, rfl⟩⟩) | (go_at_call 35; (with_reducible refine (impl_in.calls a0_2 1 1000000000 true _ A6.out).mono ?_); rintro e w' ⟨rfl, ⟨nd, rfl⟩⟩) | (go_at_call 35; (with_reducible refine (impl_in.calls a0_3 1 1000000000000000 false _ A8.out).mono ?_); rintro e w' ⟨rfl, ⟨nd, rfl⟩⟩))
     go_ret
     exact ⟨by first | rfl | (simp [errW_none, errW_some] <;> rfl) | (simp [*, errW_none, errW_some] <;> rfl), by repeat (first | (with_reducible first | exact HB.out | apply below_alloc | apply pw_below_drewN | apply below_drew1 | refine below_set ?_ GE389.out) | exact HB.out)⟩
   ·
    replace c7 := Bool.eq_false_iff.mpr c7
    subst c7
    have H1 : (some false) = some r := by rw [if_neg (show ¬ (false = true) by decide)] at H; exact H
    clear H
    have H := H1
    clear H1
    obtain rfl := Option.some.inj H
    go_enter Try.func93, Try.ntmps93
    go_wp2_with (first | ((with_reducible refine gate_dst (N := 1) rfl ?_); refine box_event ?hg (N := 1) ?hd (cs := #[.int .i64 a0_0, .int .i64 a0_1, .int .i64 a0_2, .int .i64 a0_3, .int .i64 a0_4]) (t := 96) ?hr ?_; (case hd => rfl); (case hg => rfl); (case hr => first | (go_simp; done) | (go_simp; rfl)); intro gb389 hg w15 hbox hb; have n0_ := Aside0.mk (below_step (by repeat (first | (with_reducible first | exact HB.out | apply below_alloc | apply pw_below_drewN | apply below_drew1) | exact HB.out)) hb); have n1_ := Aside0.mk (hbox); have n2_ := Aside0.mk ((by rw [hg]; exact (below_size (by repeat (first | (with_reducible first | exact HB.out | apply below_alloc | apply pw_below_drewN | apply below_drew1) | exact HB.out))) : w.heap.size ≤ gb389)); have n3_ := Aside0.mk ((by rw [hg]; exact (below_size (by repeat (first | (with_reducible first | exact HB.out | apply below_alloc | apply pw_below_drewN | apply below_drew1) | exact HB.out))) : w.heap.size ≤ gb389)); clear HB; have HB := n0_; have BK389 := n1_; have GW389 := n2_; have GE389 := n3_; clear n0_ n1_ n2_ n3_; clear hb hbox hg; have hcz16_0 : w15.cell? ⟨gb389, 0, none⟩ = some (.int .i64 a0_0) := (blk_cell BK389.out 0).trans rfl; have hcz16_1 : w15.cell? ⟨gb389, 1, none⟩ = some (.int .i64 a0_1) := (blk_cell BK389.out 1).trans rfl; have hcz16_2 : w15.cell? ⟨gb389, 2, none⟩ = some (.int .i64 a0_2) := (blk_cell BK389.out 2).trans rfl; have hcz16_3 : w15.cell? ⟨gb389, 3, none⟩ = some (.int .i64 a0_3) := (blk_cell BK389.out 3).trans rfl; have hcz16_4 : w15.cell? ⟨gb389, 4, none⟩ = some (.int .i64 a0_4) := (blk_cell BK389.out 4).trans rfl; have hfz16_0 := blk_frozen BK389.out 0; have hfz16_1 := blk_frozen BK389.out 1; have hfz16_2 := blk_frozen BK389.out 2; have hfz16_3 := blk_frozen BK389.out 3; have hfz16_4 := blk_frozen BK389.out 4) | ((with_reducible refine gate_callee (f := 34) rfl ?_); refine goesL_ (some 5) rfl rfl Try.func34 (by kernel_rfl) rfl #[.int .i64 a0_0] rfl (by (try simp only [List.map_toArray, List.map_cons, List.map_nil]); first | done | rfl | (simp only [List.length_drop, List.length_take]; rfl)) ?_; (with_reducible refine (impl_isNo.calls a0_0 true _ A2.out).mono ?_); rintro e w' ⟨rfl, ⟨nd, rfl⟩⟩; refine ⟨_, rfl, ?_⟩) | (go_at_call 34; (with_reducible refine (impl_isNo.calls a0_1 true _ A4.out).mono ?_); rintro e w' ⟨rfl, ⟨nd, rfl⟩⟩) | (go_at_call 35; (with_reducible refine (impl_in.calls a0_2 1 1000000000 false _ A6.out).mono ?_); rintro e w' ⟨rfl, ⟨nd, rfl⟩⟩))
    go_ret
    exact ⟨by first | rfl | (simp [errW_none, errW_some] <;> rfl) | (simp [*, errW_none, errW_some] <;> rfl), by repeat (first | (with_reducible first | exact HB.out | apply below_alloc | apply pw_below_drewN | apply below_drew1 | refine below_set ?_ GE389.out) | exact HB.out)⟩
  ·
   replace c5 := Bool.eq_false_iff.mpr c5
   subst c5
   have H1 : (some false) = some r := by rw [if_neg (show ¬ (false = true) by decide)] at H; exact H
   clear H
   have H := H1
   clear H1
   obtain rfl := Option.some.inj H
   go_enter Try.func93, Try.ntmps93
   go_wp2_with (first | ((with_reducible refine gate_dst (N := 1) rfl ?_); refine box_event ?hg (N := 1) ?hd (cs := #[.int .i64 a0_0, .int .i64 a0_1, .int .i64 a0_2, .int .i64 a0_3, .int .i64 a0_4]) (t := 96) ?hr ?_; (case hd => rfl); (case hg => rfl); (case hr => first | (go_simp; done) | (go_simp; rfl)); intro gb389 hg w17 hbox hb; have n0_ := Aside0.mk (below_step (by repeat (first | (with_reducible first | exact HB.out | apply below_alloc | apply pw_below_drewN | apply below_drew1) | exact HB.out)) hb); have n1_ := Aside0.mk (hbox); have n2_ := Aside0.mk ((by rw [hg]; exact (below_size (by repeat (first | (with_reducible first | exact HB.out | apply below_alloc | apply pw_below_drewN | apply below_drew1) | exact HB.out))) : w.heap.size ≤ gb389)); have n3_ := Aside0.mk ((by rw [hg]; exact (below_size (by repeat (first | (with_reducible first | exact HB.out | apply below_alloc | apply pw_below_drewN | apply below_drew1) | exact HB.out))) : w.heap.size ≤ gb389)); clear HB; have HB := n0_; have BK389 := n1_; have GW389 := n2_; have GE389 := n3_; clear n0_ n1_ n2_ n3_; clear hb hbox hg; have hcz18_0 : w17.cell? ⟨gb389, 0, none⟩ = some (.int .i64 a0_0) := (blk_cell BK389.out 0).trans rfl; have hcz18_1 : w17.cell? ⟨gb389, 1, none⟩ = some (.int .i64 a0_1) := (blk_cell BK389.out 1).trans rfl; have hcz18_2 : w17.cell? ⟨gb389, 2, none⟩ = some (.int .i64 a0_2) := (blk_cell BK389.out 2).trans rfl; have hcz18_3 : w17.cell? ⟨gb389, 3, none⟩ = some (.int .i64 a0_3) := (blk_cell BK389.out 3).trans rfl; have hcz18_4 : w17.cell? ⟨gb389, 4, none⟩ = some (.int .i64 a0_4) := (blk_cell BK389.out 4).trans rfl; have hfz18_0 := blk_frozen BK389.out 0; have hfz18_1 := blk_frozen BK389.out 1; have hfz18_2 := blk_frozen BK389.out 2; have hfz18_3 := blk_frozen BK389.out 3; have hfz18_4 := blk_frozen BK389.out 4) | ((with_reducible refine gate_callee (f := 34) rfl ?_); refine goesL_ (some 5) rfl rfl Try.func34 (by kernel_rfl) rfl #[.int .i64 a0_0] rfl (by (try simp only [List.map_toArray, List.map_cons, List.map_nil]); first | done | rfl | (simp only [List.length_drop, List.length_take]; rfl)) ?_; (with_reducible refine (impl_isNo.calls a0_0 true _ A2.out).mono ?_); rintro e w' ⟨rfl, ⟨nd, rfl⟩⟩; refine ⟨_, rfl, ?_⟩) | (go_at_call 34; (with_reducible refine (impl_isNo.calls a0_1 false _ A4.out).mono ?_); rintro e w' ⟨rfl, ⟨nd, rfl⟩⟩))
   go_ret
   exact ⟨by first | rfl | (simp [errW_none, errW_some] <;> rfl) | (simp [*, errW_none, errW_some] <;> rfl), by repeat (first | (with_reducible first | exact HB.out | apply below_alloc | apply pw_below_drewN | apply below_drew1 | refine below_set ?_ GE389.out) | exact HB.out)⟩
 ·
  replace c3 := Bool.eq_false_iff.mpr c3
  subst c3
  have H1 : (some false) = some r := by rw [if_neg (show ¬ (false = true) by decide)] at H; exact H
  clear H
  have H := H1
  clear H1
  obtain rfl := Option.some.inj H
  go_enter Try.func93, Try.ntmps93
  go_wp2_with (first | ((with_reducible refine gate_dst (N := 1) rfl ?_); refine box_event ?hg (N := 1) ?hd (cs := #[.int .i64 a0_0, .int .i64 a0_1, .int .i64 a0_2, .int .i64 a0_3, .int .i64 a0_4]) (t := 96) ?hr ?_; (case hd => rfl); (case hg => rfl); (case hr => first | (go_simp; done) | (go_simp; rfl)); intro gb389 hg w19 hbox hb; have n0_ := Aside0.mk (below_step (by repeat (first | (with_reducible first | exact HB.out | apply below_alloc | apply pw_below_drewN | apply below_drew1) | exact HB.out)) hb); have n1_ := Aside0.mk (hbox); have n2_ := Aside0.mk ((by rw [hg]; exact (below_size (by repeat (first | (with_reducible first | exact HB.out | apply below_alloc | apply pw_below_drewN | apply below_drew1) | exact HB.out))) : w.heap.size ≤ gb389)); have n3_ := Aside0.mk ((by rw [hg]; exact (below_size (by repeat (first | (with_reducible first | exact HB.out | apply below_alloc | apply pw_below_drewN | apply below_drew1) | exact HB.out))) : w.heap.size ≤ gb389)); clear HB; have HB := n0_; have BK389 := n1_; have GW389 := n2_; have GE389 := n3_; clear n0_ n1_ n2_ n3_; clear hb hbox hg; have hcz20_0 : w19.cell? ⟨gb389, 0, none⟩ = some (.int .i64 a0_0) := (blk_cell BK389.out 0).trans rfl; have hcz20_1 : w19.cell? ⟨gb389, 1, none⟩ = some (.int .i64 a0_1) := (blk_cell BK389.out 1).trans rfl; have hcz20_2 : w19.cell? ⟨gb389, 2, none⟩ = some (.int .i64 a0_2) := (blk_cell BK389.out 2).trans rfl; have hcz20_3 : w19.cell? ⟨gb389, 3, none⟩ = some (.int .i64 a0_3) := (blk_cell BK389.out 3).trans rfl; have hcz20_4 : w19.cell? ⟨gb389, 4, none⟩ = some (.int .i64 a0_4) := (blk_cell BK389.out 4).trans rfl; have hfz20_0 := blk_frozen BK389.out 0; have hfz20_1 := blk_frozen BK389.out 1; have hfz20_2 := blk_frozen BK389.out 2; have hfz20_3 := blk_frozen BK389.out 3; have hfz20_4 := blk_frozen BK389.out 4) | ((with_reducible refine gate_callee (f := 34) rfl ?_); refine goesL_ (some 5) rfl rfl Try.func34 (by kernel_rfl) rfl #[.int .i64 a0_0] rfl (by (try simp only [List.map_toArray, List.map_cons, List.map_nil]); first | done | rfl | (simp only [List.length_drop, List.length_take]; rfl)) ?_; (with_reducible refine (impl_isNo.calls a0_0 false _ A2.out).mono ?_); rintro e w' ⟨rfl, ⟨nd, rfl⟩⟩; refine ⟨_, rfl, ?_⟩))
  go_ret
  exact ⟨by first | rfl | (simp [errW_none, errW_some] <;> rfl) | (simp [*, errW_none, errW_some] <;> rfl), by repeat (first | (with_reducible first | exact HB.out | apply below_alloc | apply pw_below_drewN | apply below_drew1 | refine below_set ?_ GE389.out) | exact HB.out)⟩
def impl_lotBefore.f (k : Nat) (a0_0 : Int) (a0_1 : Int) (a0_2 : Int) (a0_3 : Int) (a0_4 : Int) (a1_0 : Int) (a1_1 : Int) (a1_2 : Int) (a1_3 : Int) (a1_4 : Int) : Option (Int) := (impl_byBoth.f k a0_0 a0_1 a1_0 a1_1).bind fun t397 => (if t397 = 0 then (if a0_2 < a1_2 then (some (-1)) else (if a0_2 > a1_2 then (some 1) else (some 0))) else (some t397))
theorem impl_lotBefore.calls (k : Nat) (a0_0 : Int) (a0_1 : Int) (a0_2 : Int) (a0_3 : Int) (a0_4 : Int) (a1_0 : Int) (a1_1 : Int) (a1_2 : Int) (a1_3 : Int) (a1_4 : Int) (r : Int) (w : World) (h : impl_lotBefore.f k a0_0 a0_1 a0_2 a0_3 a0_4 a1_0 a1_1 a1_2 a1_3 a1_4 = some r) :
 Calls Try.prog 94 #[.agg #[.int .i64 a0_0, .int .i64 a0_1, .int .i64 a0_2, .int .i64 a0_3, .int .i64 a0_4], .agg #[.int .i64 a1_0, .int .i64 a1_1, .int .i64 a1_2, .int .i64 a1_3, .int .i64 a1_4]] w fun e w' => e = .returned (.int .i64 r) ∧ Below w.heap.size w w' := by
 have hu96 := Try.underlying96
 have HB := Aside0.mk (Below.refl w.heap.size w)
 have H : ((impl_byBoth.f k a0_0 a0_1 a1_0 a1_1).bind fun t397 => (if t397 = 0 then (if a0_2 < a1_2 then (some (-1)) else (if a0_2 > a1_2 then (some 1) else (some 0))) else (some t397))) = some r := h
 clear h
 replace H := Option.bind_eq_some_iff.mp H
 obtain ⟨t397, A30, H⟩ := H
 replace H : (if t397 = 0 then (if a0_2 < a1_2 then (some (-1)) else (if a0_2 > a1_2 then (some 1) else (some 0))) else (some t397)) = some r := H
 have A3 := Aside0.mk A30
 clear A30
 by_cases c4 : t397 = 0
 ·
  rw [if_pos c4] at H
  have c4b0 : (t397 == 0) = true := beq_iff_eq.mpr c4
  have c4b1 : (t397 != 0) = false := bne_eq_false_iff_eq.mpr c4
  clear c4
  by_cases c5 : a0_2 < a1_2
  ·
   rw [if_pos c5] at H
   have c5b0 : decide (a0_2 < a1_2) = true := decide_eq_true c5
   clear c5
   obtain rfl := Option.some.inj H
   go_enter Try.func94, Try.ntmps94
   go_wp2_with (first | ((with_reducible refine gate_dst (N := 2) rfl ?_); refine box_event ?hg (N := 2) ?hd (cs := #[.int .i64 a0_0, .int .i64 a0_1, .int .i64 a0_2, .int .i64 a0_3, .int .i64 a0_4]) (t := 96) ?hr ?_; (case hd => rfl); (case hg => rfl); (case hr => first | (go_simp; done) | (go_simp; rfl)); intro gb395 hg w6 hbox hb; have n0_ := Aside0.mk (below_step (by repeat (first | (with_reducible first | exact HB.out | apply below_alloc | apply pw_below_drewN | apply below_drew1) | exact HB.out)) hb); have n1_ := Aside0.mk (hbox); have n2_ := Aside0.mk ((by rw [hg]; exact (below_size (by repeat (first | (with_reducible first | exact HB.out | apply below_alloc | apply pw_below_drewN | apply below_drew1) | exact HB.out))) : w.heap.size ≤ gb395)); have n3_ := Aside0.mk ((by rw [hg]; exact (below_size (by repeat (first | (with_reducible first | exact HB.out | apply below_alloc | apply pw_below_drewN | apply below_drew1) | exact HB.out))) : w.heap.size ≤ gb395)); clear HB; have HB := n0_; have BK395 := n1_; have GW395 := n2_; have GE395 := n3_; clear n0_ n1_ n2_ n3_; clear hb hbox hg) | ((with_reducible refine gate_dst (N := 3) rfl ?_); refine box_event ?hg (N := 3) ?hd (cs := #[.int .i64 a1_0, .int .i64 a1_1, .int .i64 a1_2, .int .i64 a1_3, .int .i64 a1_4]) (t := 96) ?hr ?_; (case hd => rfl); (case hg => rfl); (case hr => first | (go_simp; done) | (go_simp; rfl)); intro gb396 hg w7 hbox hb; have n0_ := Aside0.mk (blk_below (g := gb395) (o := .cells #[.int .i64 a0_0, .int .i64 a0_1, .int .i64 a0_2, .int .i64 a0_3, .int .i64 a0_4] 96 (0, 0)) (by (with_reducible repeat (first | refine blk_drewN ?_ _ | refine blk_drew ?_ | refine blk_alloc ?_ _)); exact BK395.out) hb); have n1_ := Aside0.mk (below_step (by repeat (first | (with_reducible first | exact HB.out | apply below_alloc | apply pw_below_drewN | apply below_drew1 | refine below_set ?_ GE395.out) | exact HB.out)) hb); have n2_ := Aside0.mk (hbox); have n3_ := Aside0.mk ((by rw [hg]; exact (below_size (by repeat (first | (with_reducible first | exact HB.out | apply below_alloc | apply pw_below_drewN | apply below_drew1 | refine below_set ?_ GE395.out) | exact HB.out))) : w.heap.size ≤ gb396)); have n4_ := Aside0.mk ((by rw [hg]; exact (below_size (by repeat (first | (with_reducible first | exact HB.out | apply below_alloc | apply pw_below_drewN | apply below_drew1 | refine below_set ?_ GE395.out) | exact HB.out))) : w.heap.size ≤ gb396)); have n5_ := Aside0.mk ((by rw [hg]; exact Nat.ne_of_lt (blk_lt (g := gb395) (o := .cells #[.int .i64 a0_0, .int .i64 a0_1, .int .i64 a0_2, .int .i64 a0_3, .int .i64 a0_4] 96 (0, 0)) (by (with_reducible repeat (first | refine blk_drewN ?_ _ | refine blk_drew ?_ | refine blk_alloc ?_ _)); exact BK395.out)) : gb395 ≠ gb396)); have n6_ := Aside0.mk ((by rw [hg]; exact Nat.ne_of_gt (blk_lt (g := gb395) (o := .cells #[.int .i64 a0_0, .int .i64 a0_1, .int .i64 a0_2, .int .i64 a0_3, .int .i64 a0_4] 96 (0, 0)) (by (with_reducible repeat (first | refine blk_drewN ?_ _ | refine blk_drew ?_ | refine blk_alloc ?_ _)); exact BK395.out)) : gb396 ≠ gb395)); clear BK395; clear HB; have BK395 := n0_; have HB := n1_; have BK396 := n2_; have GW396 := n3_; have GE396 := n4_; have NB395_396 := n5_; have NB396_395 := n6_; clear n0_ n1_ n2_ n3_ n4_ n5_ n6_; clear hb hbox hg; have hnb8 := NB395_396.out; have hnc8 := NB396_395.out; have hcz9_0 : w7.cell? ⟨gb395, 0, none⟩ = some (.int .i64 a0_0) := (blk_cell BK395.out 0).trans rfl; have hcz9_1 : w7.cell? ⟨gb395, 1, none⟩ = some (.int .i64 a0_1) := (blk_cell BK395.out 1).trans rfl; have hcz9_2 : w7.cell? ⟨gb395, 2, none⟩ = some (.int .i64 a0_2) := (blk_cell BK395.out 2).trans rfl; have hcz9_3 : w7.cell? ⟨gb395, 3, none⟩ = some (.int .i64 a0_3) := (blk_cell BK395.out 3).trans rfl; have hcz9_4 : w7.cell? ⟨gb395, 4, none⟩ = some (.int .i64 a0_4) := (blk_cell BK395.out 4).trans rfl; have hfz9_0 := blk_frozen BK395.out 0; have hfz9_1 := blk_frozen BK395.out 1; have hfz9_2 := blk_frozen BK395.out 2; have hfz9_3 := blk_frozen BK395.out 3; have hfz9_4 := blk_frozen BK395.out 4; have hcz10_0 : w7.cell? ⟨gb396, 0, none⟩ = some (.int .i64 a1_0) := (blk_cell BK396.out 0).trans rfl; have hcz10_1 : w7.cell? ⟨gb396, 1, none⟩ = some (.int .i64 a1_1) := (blk_cell BK396.out 1).trans rfl; have hcz10_2 : w7.cell? ⟨gb396, 2, none⟩ = some (.int .i64 a1_2) := (blk_cell BK396.out 2).trans rfl; have hcz10_3 : w7.cell? ⟨gb396, 3, none⟩ = some (.int .i64 a1_3) := (blk_cell BK396.out 3).trans rfl; have hcz10_4 : w7.cell? ⟨gb396, 4, none⟩ = some (.int .i64 a1_4) := (blk_cell BK396.out 4).trans rfl; have hfz10_0 := blk_frozen BK396.out 0; have hfz10_1 := blk_frozen BK396.out 1; have hfz10_2 := blk_frozen BK396.out 2; have hfz10_3 := blk_frozen BK396.out 3; have hfz10_4 := blk_frozen BK396.out 4) | ((with_reducible refine gate_callee (f := 92) rfl ?_); refine goesL_ (some 14) rfl rfl Try.func92 (by kernel_rfl) rfl #[.int .i64 a0_0, .int .i64 a0_1, .int .i64 a1_0, .int .i64 a1_1] rfl (by (try simp only [List.map_toArray, List.map_cons, List.map_nil]); first | done | rfl | (simp only [List.length_drop, List.length_take]; rfl)) ?_; (with_reducible refine (impl_byBoth.calls k a0_0 a0_1 a1_0 a1_1 t397 _ A3.out).mono ?_); rintro e w' ⟨rfl, ⟨nd, rfl⟩⟩; refine ⟨_, rfl, ?_⟩))
   go_ret
   exact ⟨by first | rfl | (simp [errW_none, errW_some] <;> rfl) | (simp [*, errW_none, errW_some] <;> rfl), by repeat (first | (with_reducible first | exact HB.out | apply below_alloc | apply pw_below_drewN | apply below_drew1 | refine below_set ?_ GE395.out | refine below_set ?_ GE396.out) | exact HB.out)⟩
  ·
   rw [if_neg c5] at H
   have c5b0 : decide (a0_2 < a1_2) = false := decide_eq_false c5
   clear c5
   by_cases c11 : a0_2 > a1_2
   ·
    rw [if_pos c11] at H
    have c11b0 : decide (a1_2 < a0_2) = true := decide_eq_true c11
    clear c11
    obtain rfl := Option.some.inj H
    go_enter Try.func94, Try.ntmps94
    go_wp2_with (first | ((with_reducible refine gate_dst (N := 2) rfl ?_); refine box_event ?hg (N := 2) ?hd (cs := #[.int .i64 a0_0, .int .i64 a0_1, .int .i64 a0_2, .int .i64 a0_3, .int .i64 a0_4]) (t := 96) ?hr ?_; (case hd => rfl); (case hg => rfl); (case hr => first | (go_simp; done) | (go_simp; rfl)); intro gb395 hg w12 hbox hb; have n0_ := Aside0.mk (below_step (by repeat (first | (with_reducible first | exact HB.out | apply below_alloc | apply pw_below_drewN | apply below_drew1) | exact HB.out)) hb); have n1_ := Aside0.mk (hbox); have n2_ := Aside0.mk ((by rw [hg]; exact (below_size (by repeat (first | (with_reducible first | exact HB.out | apply below_alloc | apply pw_below_drewN | apply below_drew1) | exact HB.out))) : w.heap.size ≤ gb395)); have n3_ := Aside0.mk ((by rw [hg]; exact (below_size (by repeat (first | (with_reducible first | exact HB.out | apply below_alloc | apply pw_below_drewN | apply below_drew1) | exact HB.out))) : w.heap.size ≤ gb395)); clear HB; have HB := n0_; have BK395 := n1_; have GW395 := n2_; have GE395 := n3_; clear n0_ n1_ n2_ n3_; clear hb hbox hg) | ((with_reducible refine gate_dst (N := 3) rfl ?_); refine box_event ?hg (N := 3) ?hd (cs := #[.int .i64 a1_0, .int .i64 a1_1, .int .i64 a1_2, .int .i64 a1_3, .int .i64 a1_4]) (t := 96) ?hr ?_; (case hd => rfl); (case hg => rfl); (case hr => first | (go_simp; done) | (go_simp; rfl)); intro gb396 hg w13 hbox hb; have n0_ := Aside0.mk (blk_below (g := gb395) (o := .cells #[.int .i64 a0_0, .int .i64 a0_1, .int .i64 a0_2, .int .i64 a0_3, .int .i64 a0_4] 96 (0, 0)) (by (with_reducible repeat (first | refine blk_drewN ?_ _ | refine blk_drew ?_ | refine blk_alloc ?_ _)); exact BK395.out) hb); have n1_ := Aside0.mk (below_step (by repeat (first | (with_reducible first | exact HB.out | apply below_alloc | apply pw_below_drewN | apply below_drew1 | refine below_set ?_ GE395.out) | exact HB.out)) hb); have n2_ := Aside0.mk (hbox); have n3_ := Aside0.mk ((by rw [hg]; exact (below_size (by repeat (first | (with_reducible first | exact HB.out | apply below_alloc | apply pw_below_drewN | apply below_drew1 | refine below_set ?_ GE395.out) | exact HB.out))) : w.heap.size ≤ gb396)); have n4_ := Aside0.mk ((by rw [hg]; exact (below_size (by repeat (first | (with_reducible first | exact HB.out | apply below_alloc | apply pw_below_drewN | apply below_drew1 | refine below_set ?_ GE395.out) | exact HB.out))) : w.heap.size ≤ gb396)); have n5_ := Aside0.mk ((by rw [hg]; exact Nat.ne_of_lt (blk_lt (g := gb395) (o := .cells #[.int .i64 a0_0, .int .i64 a0_1, .int .i64 a0_2, .int .i64 a0_3, .int .i64 a0_4] 96 (0, 0)) (by (with_reducible repeat (first | refine blk_drewN ?_ _ | refine blk_drew ?_ | refine blk_alloc ?_ _)); exact BK395.out)) : gb395 ≠ gb396)); have n6_ := Aside0.mk ((by rw [hg]; exact Nat.ne_of_gt (blk_lt (g := gb395) (o := .cells #[.int .i64 a0_0, .int .i64 a0_1, .int .i64 a0_2, .int .i64 a0_3, .int .i64 a0_4] 96 (0, 0)) (by (with_reducible repeat (first | refine blk_drewN ?_ _ | refine blk_drew ?_ | refine blk_alloc ?_ _)); exact BK395.out)) : gb396 ≠ gb395)); clear BK395; clear HB; have BK395 := n0_; have HB := n1_; have BK396 := n2_; have GW396 := n3_; have GE396 := n4_; have NB395_396 := n5_; have NB396_395 := n6_; clear n0_ n1_ n2_ n3_ n4_ n5_ n6_; clear hb hbox hg; have hnb14 := NB395_396.out; have hnc14 := NB396_395.out; have hcz15_0 : w13.cell? ⟨gb395, 0, none⟩ = some (.int .i64 a0_0) := (blk_cell BK395.out 0).trans rfl; have hcz15_1 : w13.cell? ⟨gb395, 1, none⟩ = some (.int .i64 a0_1) := (blk_cell BK395.out 1).trans rfl; have hcz15_2 : w13.cell? ⟨gb395, 2, none⟩ = some (.int .i64 a0_2) := (blk_cell BK395.out 2).trans rfl; have hcz15_3 : w13.cell? ⟨gb395, 3, none⟩ = some (.int .i64 a0_3) := (blk_cell BK395.out 3).trans rfl; have hcz15_4 : w13.cell? ⟨gb395, 4, none⟩ = some (.int .i64 a0_4) := (blk_cell BK395.out 4).trans rfl; have hfz15_0 := blk_frozen BK395.out 0; have hfz15_1 := blk_frozen BK395.out 1; have hfz15_2 := blk_frozen BK395.out 2; have hfz15_3 := blk_frozen BK395.out 3; have hfz15_4 := blk_frozen BK395.out 4; have hcz16_0 : w13.cell? ⟨gb396, 0, none⟩ = some (.int .i64 a1_0) := (blk_cell BK396.out 0).trans rfl; have hcz16_1 : w13.cell? ⟨gb396, 1, none⟩ = some (.int .i64 a1_1) := (blk_cell BK396.out 1).trans rfl; have hcz16_2 : w13.cell? ⟨gb396, 2, none⟩ = some (.int .i64 a1_2) := (blk_cell BK396.out 2).trans rfl; have hcz16_3 : w13.cell? ⟨gb396, 3, none⟩ = some (.int .i64 a1_3) := (blk_cell BK396.out 3).trans rfl; have hcz16_4 : w13.cell? ⟨gb396, 4, none⟩ = some (.int .i64 a1_4) := (blk_cell BK396.out 4).trans rfl; have hfz16_0 := blk_frozen BK396.out 0; have hfz16_1 := blk_frozen BK396.out 1; have hfz16_2 := blk_frozen BK396.out 2; have hfz16_3 := blk_frozen BK396.out 3; have hfz16_4 := blk_frozen BK396.out 4) | ((with_reducible refine gate_callee (f := 92) rfl ?_); refine goesL_ (some 14) rfl rfl Try.func92 (by kernel_rfl) rfl #[.int .i64 a0_0, .int .i64 a0_1, .int .i64 a1_0, .int .i64 a1_1] rfl (by (try simp only [List.map_toArray, List.map_cons, List.map_nil]); first | done | rfl | (simp only [List.length_drop, List.length_take]; rfl)) ?_; (with_reducible refine (impl_byBoth.calls k a0_0 a0_1 a1_0 a1_1 t397 _ A3.out).mono ?_); rintro e w' ⟨rfl, ⟨nd, rfl⟩⟩; refine ⟨_, rfl, ?_⟩))
    go_ret
    exact ⟨by first | rfl | (simp [errW_none, errW_some] <;> rfl) | (simp [*, errW_none, errW_some] <;> rfl), by repeat (first | (with_reducible first | exact HB.out | apply below_alloc | apply pw_below_drewN | apply below_drew1 | refine below_set ?_ GE395.out | refine below_set ?_ GE396.out) | exact HB.out)⟩
   ·
    rw [if_neg c11] at H
    have c11b0 : decide (a1_2 < a0_2) = false := decide_eq_false c11
    clear c11
    obtain rfl := Option.some.inj H
    go_enter Try.func94, Try.ntmps94
    go_wp2_with (first | ((with_reducible refine gate_dst (N := 2) rfl ?_); refine box_event ?hg (N := 2) ?hd (cs := #[.int .i64 a0_0, .int .i64 a0_1, .int .i64 a0_2, .int .i64 a0_3, .int .i64 a0_4]) (t := 96) ?hr ?_; (case hd => rfl); (case hg => rfl); (case hr => first | (go_simp; done) | (go_simp; rfl)); intro gb395 hg w17 hbox hb; have n0_ := Aside0.mk (below_step (by repeat (first | (with_reducible first | exact HB.out | apply below_alloc | apply pw_below_drewN | apply below_drew1) | exact HB.out)) hb); have n1_ := Aside0.mk (hbox); have n2_ := Aside0.mk ((by rw [hg]; exact (below_size (by repeat (first | (with_reducible first | exact HB.out | apply below_alloc | apply pw_below_drewN | apply below_drew1) | exact HB.out))) : w.heap.size ≤ gb395)); have n3_ := Aside0.mk ((by rw [hg]; exact (below_size (by repeat (first | (with_reducible first | exact HB.out | apply below_alloc | apply pw_below_drewN | apply below_drew1) | exact HB.out))) : w.heap.size ≤ gb395)); clear HB; have HB := n0_; have BK395 := n1_; have GW395 := n2_; have GE395 := n3_; clear n0_ n1_ n2_ n3_; clear hb hbox hg) | ((with_reducible refine gate_dst (N := 3) rfl ?_); refine box_event ?hg (N := 3) ?hd (cs := #[.int .i64 a1_0, .int .i64 a1_1, .int .i64 a1_2, .int .i64 a1_3, .int .i64 a1_4]) (t := 96) ?hr ?_; (case hd => rfl); (case hg => rfl); (case hr => first | (go_simp; done) | (go_simp; rfl)); intro gb396 hg w18 hbox hb; have n0_ := Aside0.mk (blk_below (g := gb395) (o := .cells #[.int .i64 a0_0, .int .i64 a0_1, .int .i64 a0_2, .int .i64 a0_3, .int .i64 a0_4] 96 (0, 0)) (by (with_reducible repeat (first | refine blk_drewN ?_ _ | refine blk_drew ?_ | refine blk_alloc ?_ _)); exact BK395.out) hb); have n1_ := Aside0.mk (below_step (by repeat (first | (with_reducible first | exact HB.out | apply below_alloc | apply pw_below_drewN | apply below_drew1 | refine below_set ?_ GE395.out) | exact HB.out)) hb); have n2_ := Aside0.mk (hbox); have n3_ := Aside0.mk ((by rw [hg]; exact (below_size (by repeat (first | (with_reducible first | exact HB.out | apply below_alloc | apply pw_below_drewN | apply below_drew1 | refine below_set ?_ GE395.out) | exact HB.out))) : w.heap.size ≤ gb396)); have n4_ := Aside0.mk ((by rw [hg]; exact (below_size (by repeat (first | (with_reducible first | exact HB.out | apply below_alloc | apply pw_below_drewN | apply below_drew1 | refine below_set ?_ GE395.out) | exact HB.out))) : w.heap.size ≤ gb396)); have n5_ := Aside0.mk ((by rw [hg]; exact Nat.ne_of_lt (blk_lt (g := gb395) (o := .cells #[.int .i64 a0_0, .int .i64 a0_1, .int .i64 a0_2, .int .i64 a0_3, .int .i64 a0_4] 96 (0, 0)) (by (with_reducible repeat (first | refine blk_drewN ?_ _ | refine blk_drew ?_ | refine blk_alloc ?_ _)); exact BK395.out)) : gb395 ≠ gb396)); have n6_ := Aside0.mk ((by rw [hg]; exact Nat.ne_of_gt (blk_lt (g := gb395) (o := .cells #[.int .i64 a0_0, .int .i64 a0_1, .int .i64 a0_2, .int .i64 a0_3, .int .i64 a0_4] 96 (0, 0)) (by (with_reducible repeat (first | refine blk_drewN ?_ _ | refine blk_drew ?_ | refine blk_alloc ?_ _)); exact BK395.out)) : gb396 ≠ gb395)); clear BK395; clear HB; have BK395 := n0_; have HB := n1_; have BK396 := n2_; have GW396 := n3_; have GE396 := n4_; have NB395_396 := n5_; have NB396_395 := n6_; clear n0_ n1_ n2_ n3_ n4_ n5_ n6_; clear hb hbox hg; have hnb19 := NB395_396.out; have hnc19 := NB396_395.out; have hcz20_0 : w18.cell? ⟨gb395, 0, none⟩ = some (.int .i64 a0_0) := (blk_cell BK395.out 0).trans rfl; have hcz20_1 : w18.cell? ⟨gb395, 1, none⟩ = some (.int .i64 a0_1) := (blk_cell BK395.out 1).trans rfl; have hcz20_2 : w18.cell? ⟨gb395, 2, none⟩ = some (.int .i64 a0_2) := (blk_cell BK395.out 2).trans rfl; have hcz20_3 : w18.cell? ⟨gb395, 3, none⟩ = some (.int .i64 a0_3) := (blk_cell BK395.out 3).trans rfl; have hcz20_4 : w18.cell? ⟨gb395, 4, none⟩ = some (.int .i64 a0_4) := (blk_cell BK395.out 4).trans rfl; have hfz20_0 := blk_frozen BK395.out 0; have hfz20_1 := blk_frozen BK395.out 1; have hfz20_2 := blk_frozen BK395.out 2; have hfz20_3 := blk_frozen BK395.out 3; have hfz20_4 := blk_frozen BK395.out 4; have hcz21_0 : w18.cell? ⟨gb396, 0, none⟩ = some (.int .i64 a1_0) := (blk_cell BK396.out 0).trans rfl; have hcz21_1 : w18.cell? ⟨gb396, 1, none⟩ = some (.int .i64 a1_1) := (blk_cell BK396.out 1).trans rfl; have hcz21_2 : w18.cell? ⟨gb396, 2, none⟩ = some (.int .i64 a1_2) := (blk_cell BK396.out 2).trans rfl; have hcz21_3 : w18.cell? ⟨gb396, 3, none⟩ = some (.int .i64 a1_3) := (blk_cell BK396.out 3).trans rfl; have hcz21_4 : w18.cell? ⟨gb396, 4, none⟩ = some (.int .i64 a1_4) := (blk_cell BK396.out 4).trans rfl; have hfz21_0 := blk_frozen BK396.out 0; have hfz21_1 := blk_frozen BK396.out 1; have hfz21_2 := blk_frozen BK396.out 2; have hfz21_3 := blk_frozen BK396.out 3; have hfz21_4 := blk_frozen BK396.out 4) | ((with_reducible refine gate_callee (f := 92) rfl ?_); refine goesL_ (some 14) rfl rfl Try.func92 (by kernel_rfl) rfl #[.int .i64 a0_0, .int .i64 a0_1, .int .i64 a1_0, .int .i64 a1_1] rfl (by (try simp only [List.map_toArray, List.map_cons, List.map_nil]); first | done | rfl | (simp only [List.length_drop, List.length_take]; rfl)) ?_; (with_reducible refine (impl_byBoth.calls k a0_0 a0_1 a1_0 a1_1 t397 _ A3.out).mono ?_); rintro e w' ⟨rfl, ⟨nd, rfl⟩⟩; refine ⟨_, rfl, ?_⟩))
    go_ret
    exact ⟨by first | rfl | (simp [errW_none, errW_some] <;> rfl) | (simp [*, errW_none, errW_some] <;> rfl), by repeat (first | (with_reducible first | exact HB.out | apply below_alloc | apply pw_below_drewN | apply below_drew1 | refine below_set ?_ GE395.out | refine below_set ?_ GE396.out) | exact HB.out)⟩
 ·
  rw [if_neg c4] at H
  have c4b0 : (t397 == 0) = false := beq_eq_false_iff_ne.mpr c4
  have c4b1 : (t397 != 0) = true := bne_iff_ne.mpr c4
  obtain rfl := Option.some.inj H
  go_enter Try.func94, Try.ntmps94
  go_wp2_with (first | ((with_reducible refine gate_dst (N := 2) rfl ?_); refine box_event ?hg (N := 2) ?hd (cs := #[.int .i64 a0_0, .int .i64 a0_1, .int .i64 a0_2, .int .i64 a0_3, .int .i64 a0_4]) (t := 96) ?hr ?_; (case hd => rfl); (case hg => rfl); (case hr => first | (go_simp; done) | (go_simp; rfl)); intro gb395 hg w22 hbox hb; have n0_ := Aside0.mk (below_step (by repeat (first | (with_reducible first | exact HB.out | apply below_alloc | apply pw_below_drewN | apply below_drew1) | exact HB.out)) hb); have n1_ := Aside0.mk (hbox); have n2_ := Aside0.mk ((by rw [hg]; exact (below_size (by repeat (first | (with_reducible first | exact HB.out | apply below_alloc | apply pw_below_drewN | apply below_drew1) | exact HB.out))) : w.heap.size ≤ gb395)); have n3_ := Aside0.mk ((by rw [hg]; exact (below_size (by repeat (first | (with_reducible first | exact HB.out | apply below_alloc | apply pw_below_drewN | apply below_drew1) | exact HB.out))) : w.heap.size ≤ gb395)); clear HB; have HB := n0_; have BK395 := n1_; have GW395 := n2_; have GE395 := n3_; clear n0_ n1_ n2_ n3_; clear hb hbox hg) | ((with_reducible refine gate_dst (N := 3) rfl ?_); refine box_event ?hg (N := 3) ?hd (cs := #[.int .i64 a1_0, .int .i64 a1_1, .int .i64 a1_2, .int .i64 a1_3, .int .i64 a1_4]) (t := 96) ?hr ?_; (case hd => rfl); (case hg => rfl); (case hr => first | (go_simp; done) | (go_simp; rfl)); intro gb396 hg w23 hbox hb; have n0_ := Aside0.mk (blk_below (g := gb395) (o := .cells #[.int .i64 a0_0, .int .i64 a0_1, .int .i64 a0_2, .int .i64 a0_3, .int .i64 a0_4] 96 (0, 0)) (by (with_reducible repeat (first | refine blk_drewN ?_ _ | refine blk_drew ?_ | refine blk_alloc ?_ _)); exact BK395.out) hb); have n1_ := Aside0.mk (below_step (by repeat (first | (with_reducible first | exact HB.out | apply below_alloc | apply pw_below_drewN | apply below_drew1 | refine below_set ?_ GE395.out) | exact HB.out)) hb); have n2_ := Aside0.mk (hbox); have n3_ := Aside0.mk ((by rw [hg]; exact (below_size (by repeat (first | (with_reducible first | exact HB.out | apply below_alloc | apply pw_below_drewN | apply below_drew1 | refine below_set ?_ GE395.out) | exact HB.out))) : w.heap.size ≤ gb396)); have n4_ := Aside0.mk ((by rw [hg]; exact (below_size (by repeat (first | (with_reducible first | exact HB.out | apply below_alloc | apply pw_below_drewN | apply below_drew1 | refine below_set ?_ GE395.out) | exact HB.out))) : w.heap.size ≤ gb396)); have n5_ := Aside0.mk ((by rw [hg]; exact Nat.ne_of_lt (blk_lt (g := gb395) (o := .cells #[.int .i64 a0_0, .int .i64 a0_1, .int .i64 a0_2, .int .i64 a0_3, .int .i64 a0_4] 96 (0, 0)) (by (with_reducible repeat (first | refine blk_drewN ?_ _ | refine blk_drew ?_ | refine blk_alloc ?_ _)); exact BK395.out)) : gb395 ≠ gb396)); have n6_ := Aside0.mk ((by rw [hg]; exact Nat.ne_of_gt (blk_lt (g := gb395) (o := .cells #[.int .i64 a0_0, .int .i64 a0_1, .int .i64 a0_2, .int .i64 a0_3, .int .i64 a0_4] 96 (0, 0)) (by (with_reducible repeat (first | refine blk_drewN ?_ _ | refine blk_drew ?_ | refine blk_alloc ?_ _)); exact BK395.out)) : gb396 ≠ gb395)); clear BK395; clear HB; have BK395 := n0_; have HB := n1_; have BK396 := n2_; have GW396 := n3_; have GE396 := n4_; have NB395_396 := n5_; have NB396_395 := n6_; clear n0_ n1_ n2_ n3_ n4_ n5_ n6_; clear hb hbox hg; have hnb24 := NB395_396.out; have hnc24 := NB396_395.out; have hcz25_0 : w23.cell? ⟨gb395, 0, none⟩ = some (.int .i64 a0_0) := (blk_cell BK395.out 0).trans rfl; have hcz25_1 : w23.cell? ⟨gb395, 1, none⟩ = some (.int .i64 a0_1) := (blk_cell BK395.out 1).trans rfl; have hcz25_2 : w23.cell? ⟨gb395, 2, none⟩ = some (.int .i64 a0_2) := (blk_cell BK395.out 2).trans rfl; have hcz25_3 : w23.cell? ⟨gb395, 3, none⟩ = some (.int .i64 a0_3) := (blk_cell BK395.out 3).trans rfl; have hcz25_4 : w23.cell? ⟨gb395, 4, none⟩ = some (.int .i64 a0_4) := (blk_cell BK395.out 4).trans rfl; have hfz25_0 := blk_frozen BK395.out 0; have hfz25_1 := blk_frozen BK395.out 1; have hfz25_2 := blk_frozen BK395.out 2; have hfz25_3 := blk_frozen BK395.out 3; have hfz25_4 := blk_frozen BK395.out 4; have hcz26_0 : w23.cell? ⟨gb396, 0, none⟩ = some (.int .i64 a1_0) := (blk_cell BK396.out 0).trans rfl; have hcz26_1 : w23.cell? ⟨gb396, 1, none⟩ = some (.int .i64 a1_1) := (blk_cell BK396.out 1).trans rfl; have hcz26_2 : w23.cell? ⟨gb396, 2, none⟩ = some (.int .i64 a1_2) := (blk_cell BK396.out 2).trans rfl; have hcz26_3 : w23.cell? ⟨gb396, 3, none⟩ = some (.int .i64 a1_3) := (blk_cell BK396.out 3).trans rfl; have hcz26_4 : w23.cell? ⟨gb396, 4, none⟩ = some (.int .i64 a1_4) := (blk_cell BK396.out 4).trans rfl; have hfz26_0 := blk_frozen BK396.out 0; have hfz26_1 := blk_frozen BK396.out 1; have hfz26_2 := blk_frozen BK396.out 2; have hfz26_3 := blk_frozen BK396.out 3; have hfz26_4 := blk_frozen BK396.out 4) | ((with_reducible refine gate_callee (f := 92) rfl ?_); refine goesL_ (some 14) rfl rfl Try.func92 (by kernel_rfl) rfl #[.int .i64 a0_0, .int .i64 a0_1, .int .i64 a1_0, .int .i64 a1_1] rfl (by (try simp only [List.map_toArray, List.map_cons, List.map_nil]); first | done | rfl | (simp only [List.length_drop, List.length_take]; rfl)) ?_; (with_reducible refine (impl_byBoth.calls k a0_0 a0_1 a1_0 a1_1 t397 _ A3.out).mono ?_); rintro e w' ⟨rfl, ⟨nd, rfl⟩⟩; refine ⟨_, rfl, ?_⟩))
  go_ret
  exact ⟨by first | rfl | (simp [errW_none, errW_some] <;> rfl) | (simp [*, errW_none, errW_some] <;> rfl), by repeat (first | (with_reducible first | exact HB.out | apply below_alloc | apply pw_below_drewN | apply below_drew1 | refine below_set ?_ GE395.out | refine below_set ?_ GE396.out) | exact HB.out)⟩
def impl_sumLots.l0 : Nat → Int → Int → List (S96) → Int → Int → Option (Int × Int)
 | 0, _, _, _, _, _ => none
 | k + 1, x4, x5, x8, x9, x10 => if x10 < x9 then (if 0 ≤ x10 then (if x10 < (x8.length : Int) then (impl_sumLots.l0 k (wrap64 (x4 + ((rd_T96 x8 x10).f3))) (wrap64 (x5 + ((rd_T96 x8 x10).f4))) x8 x9 (wrap64 (x10 + 1))) else (none)) else (none)) else (some (x4, x5))
def impl_sumLots.f (k : Nat) (l0 : List (S96)) : Option (Int × Int) := impl_sumLots.l0 k 0 0 l0 (l0.length : Int) 0
theorem impl_sumLots.calls (k : Nat) (A0 : Option Addr) (c0 : Nat) (l0 : List (S96)) (r1 : Int) (r2 : Int) (w : World) (hr0 : Kd.C k96 w A0 l0.length l0) (hc0 : l0.length ≤ c0) (h : impl_sumLots.f k l0 = some (r1, r2)) :
 Calls Try.prog 97 #[.slice A0 l0.length c0] w fun e w' => e = .returned (.tuple #[.int .i64 r1, .int .i64 r2]) ∧ Below w.heap.size w w' := by
 have hu96 := Try.underlying96
 have HR0 := Aside0.mk hr0
 have HC0 := Aside0.mk hc0
 clear hr0 hc0
 have HB := Aside0.mk (Below.refl w.heap.size w)
 have H : (impl_sumLots.l0 k 0 0 l0 (l0.length : Int) 0) = some (r1, r2) := h
 clear h
 have H' := Aside0.mk H
 clear H
 go_enter Try.func97, Try.ntmps97
 go_wp2
 go_loopg [4, 5, 10] k (fun kq v4 v5 v10 w' => ∃ (x4_1 : Int) (x5_1 : Int) (x10_1 : Int), v4 = .int .i64 x4_1 ∧ v5 = .int .i64 x5_1 ∧ v10 = .int .i64 x10_1 ∧ Aside0 (impl_sumLots.l0 kq x4_1 x5_1 l0 (l0.length : Int) x10_1 = some (r1, r2)) ∧ Aside0 (kq ≤ k) ∧ Aside0 (Below w.heap.size w w'))
 case atStart => exact ⟨(0), (0), (0), (by first | rfl | (simp; done) | (simp [*]; done)), (by first | rfl | (simp; done) | (simp [*]; done)), (by first | rfl | (simp; done) | (simp [*]; done)), H', ⟨Nat.le_refl _⟩, ⟨by repeat (first | (with_reducible first | exact HB.out | apply below_alloc | apply pw_below_drewN | apply below_drew1) | exact HB.out)⟩⟩
 case round =>
  clear H'
  obtain ⟨x4_1, x5_1, x10_1, rfl, rfl, rfl, HA, HK1, HB⟩ := hrel
  cases gk with
  | zero => exact absurd HA.out (by simp [impl_sumLots.l0])
  | succ k1 =>
   have H := HA.out
   clear HA
   simp only [impl_sumLots.l0] at H
   by_cases c2 : x10_1 < (l0.length : Int)
   ·
    rw [if_pos c2] at H
    have c2b0 : decide (x10_1 < (l0.length : Int)) = true := decide_eq_true c2
    clear c2
    by_cases c3 : 0 ≤ x10_1
    ·
     rw [if_pos c3] at H
     have c3b0 : decide (0 ≤ x10_1) = true := decide_eq_true c3
     clear c3
     by_cases c4 : x10_1 < (l0.length : Int)
     ·
      rw [if_pos c4] at H
      have c4b0 : decide (x10_1 < (l0.length : Int)) = true := decide_eq_true c4
      clear c4
      have H' := Aside0.mk H
      clear H
      have p398 : 0 ≤ (x10_1 : Int) := of_decide_eq_true (by first | (with_reducible assumption) | assumption)
      have q398 : x10_1 < (l0.length : Int) := of_decide_eq_true (by first | (with_reducible assumption) | assumption)
      obtain ⟨ad398, e398, hx398_0, hx398_1, hx398_2, hx398_3, hx398_4⟩ := at_T96 HR0.out x10_1 p398 q398
      cases e398
      replace hx398_0 := (HB.out.cell (World.block_lt_of_cell? w _ hx398_0)).trans hx398_0
      replace hx398_1 := (HB.out.cell (World.block_lt_of_cell? w _ hx398_1)).trans hx398_1
      replace hx398_2 := (HB.out.cell (World.block_lt_of_cell? w _ hx398_2)).trans hx398_2
      replace hx398_3 := (HB.out.cell (World.block_lt_of_cell? w _ hx398_3)).trans hx398_3
      replace hx398_4 := (HB.out.cell (World.block_lt_of_cell? w _ hx398_4)).trans hx398_4
      replace p398 := eq_true p398
      replace q398 := eq_true q398
      go_wp2_with (first | ((with_reducible refine gate_dst (N := 7) rfl ?_); refine box_event ?hg (N := 7) ?hd (cs := #[.int .i64 0, .int .i64 0, .int .i64 0, .int .i64 0, .int .i64 0]) (t := 96) ?hr ?_; (case hd => rfl); (case hg => rfl); (case hr => first | (go_simp; done) | (go_simp; rfl)); intro gb399 hg w5 hbox hb; have n0_ := Aside0.mk (below_step (by repeat (first | (with_reducible first | exact HB.out | apply below_alloc | apply pw_below_drewN | apply below_drew1) | exact HB.out)) hb); have n1_ := Aside0.mk (hbox); have n2_ := Aside0.mk ((by rw [hg]; exact (below_size (by repeat (first | (with_reducible first | exact HB.out | apply below_alloc | apply pw_below_drewN | apply below_drew1) | exact HB.out))) : w.heap.size ≤ gb399)); have n3_ := Aside0.mk ((by rw [hg]; exact (below_size (by repeat (first | (with_reducible first | exact HB.out | apply below_alloc | apply pw_below_drewN | apply below_drew1) | exact HB.out))) : w.heap.size ≤ gb399)); clear HB; have HB := n0_; have BK399 := n1_; have GW399 := n2_; have GE399 := n3_; clear n0_ n1_ n2_ n3_; clear hb hbox hg; have hcz6_0 : w5.cell? ⟨gb399, 0, none⟩ = some (.int .i64 0) := (blk_cell BK399.out 0).trans rfl; have hcz6_1 : w5.cell? ⟨gb399, 1, none⟩ = some (.int .i64 0) := (blk_cell BK399.out 1).trans rfl; have hcz6_2 : w5.cell? ⟨gb399, 2, none⟩ = some (.int .i64 0) := (blk_cell BK399.out 2).trans rfl; have hcz6_3 : w5.cell? ⟨gb399, 3, none⟩ = some (.int .i64 0) := (blk_cell BK399.out 3).trans rfl; have hcz6_4 : w5.cell? ⟨gb399, 4, none⟩ = some (.int .i64 0) := (blk_cell BK399.out 4).trans rfl; have hfz6_0 := blk_frozen BK399.out 0; have hfz6_1 := blk_frozen BK399.out 1; have hfz6_2 := blk_frozen BK399.out 2; have hfz6_3 := blk_frozen BK399.out 3; have hfz6_4 := blk_frozen BK399.out 4))
      go_roundg k1
      case measure => have := HK1.out; omega
      case rel => exact ⟨(wrap64 (x4_1 + ((rd_T96 l0 x10_1).f3))), (wrap64 (x5_1 + ((rd_T96 l0 x10_1).f4))), (wrap64 (x10_1 + 1)), (by first | rfl | (simp; done) | (simp [*]; done)), (by first | rfl | (simp; done) | (simp [*]; done)), (by first | rfl | (simp; done) | (simp [*]; done)), H', ⟨by have := HK1.out; omega⟩, ⟨by repeat (first | (with_reducible first | exact HB.out | apply below_alloc | apply pw_below_drewN | apply below_drew1 | refine below_set ?_ GE399.out) | exact HB.out)⟩⟩
     ·
      rw [if_neg c4] at H
      exact absurd H (by simp)
    ·
     rw [if_neg c3] at H
     exact absurd H (by simp)
   ·
    rw [if_neg c2] at H
    have c2b0 : decide (x10_1 < (l0.length : Int)) = false := decide_eq_false c2
    clear c2
    simp only [Option.some.injEq, Prod.mk.injEq] at H
    obtain ⟨rfl, rfl⟩ := H
    go_wp2
    go_ret2
    exact ⟨by first | rfl | (simp [errW_none, errW_some] <;> rfl) | (simp [*, errW_none, errW_some] <;> rfl), by repeat (first | (with_reducible first | exact HB.out | apply below_alloc | apply pw_below_drewN | apply below_drew1) | exact HB.out)⟩
def impl_Lot.f (l0 : List (S96)) : Option ((List (S96))) := (some (([] : List (S96)) : List (S96))).bind fun y400 => (if y400.length + l0.length < 3518437208883 then (some (y400 ++ l0)) else (none))
theorem impl_Lot.calls (A0 : Option Addr) (c0 : Nat) (l0 : List (S96)) (r : List (S96)) (w : World) (hr0 : Kd.C k96 w A0 l0.length l0) (hc0 : l0.length ≤ c0) (h : impl_Lot.f l0 = some r) :
 Calls Try.prog 110 #[.slice A0 l0.length c0] w fun e w' => ∃ v0_ : Value, e = .returned (v0_) ∧ Kd.R k96 96 w' w.heap.size (fun _ => True) v0_ r ∧ Below w.heap.size w w' := by
 have HR0 := Aside0.mk hr0
 have HC0 := Aside0.mk hc0
 clear hr0 hc0
 have HB := Aside0.mk (Below.refl w.heap.size w)
 have H : ((some (([] : List (S96)) : List (S96))).bind fun y400 => (if y400.length + l0.length < 3518437208883 then (some (y400 ++ l0)) else (none))) = some r := h
 clear h
 obtain ⟨y400, hy400⟩ : ∃ y_ : List (S96), y_ = (([] : List (S96))) := ⟨_, rfl⟩
 replace H : (if y400.length + l0.length < 3518437208883 then (some (y400 ++ l0)) else (none)) = some r := by first | (rw [hy400]; with_reducible exact H) | (have H2_ := (Option.bind_some _ _).symm.trans H; rw [hy400]; with_reducible exact H2_) | (have H2_ := (Option.bind_some _ _).symm.trans H; with_reducible exact H2_) | with_reducible exact H | (rw [hy400]; exact H) | exact H
 have Ny400 := Aside0.mk hy400
 clear hy400
 by_cases c2 : y400.length + l0.length < 3518437208883
 ·
  rw [if_pos c2] at H
  have LMc2 := Aside0.mk c2
  clear c2
  obtain ⟨y403, hy403⟩ : ∃ y_ : List (S96), y_ = (y400 ++ l0) := ⟨_, rfl⟩
  replace H : (some y403) = some r := by first | (rw [hy403]; with_reducible exact H) | (have H2_ := (Option.bind_some _ _).symm.trans H; rw [hy403]; with_reducible exact H2_) | (have H2_ := (Option.bind_some _ _).symm.trans H; with_reducible exact H2_) | with_reducible exact H | (rw [hy403]; exact H) | exact H
  have Ny403 := Aside0.mk hy403
  clear hy403
  obtain rfl := Option.some.inj H
  have q_ : ∀ (W : World) (a : Option Addr) (n c n' c' : Nat), (binOp .eql 32 (.slice a n c) (.slice none n' c')).run Try.prog W = .ok (.bool a.isNone) W := fun W a n c n' c' => Lib.run_eql_slice_nil W _ _ a n c n' c' Try.underlying32
  cases A0 with
  | none =>
   have e0_ : l0 = [] := by
    have h_ : ReadsRow _ _ _ _ _ _ := HR0.out
    unfold ReadsRow at h_
    obtain ⟨h1_, _, h2_⟩ := h_
    apply List.eq_nil_of_length_eq_zero
    apply Classical.byContradiction
    intro hn_
    obtain ⟨ad_, e_, _⟩ := h2_ (by omega)
    cases e_
   have Ny0_ : y403 = [] := by rw [Ny403.out, Ny400.out, e0_]; rfl
   subst Ny0_
   go_enter Try.func110, Try.ntmps110
   go_wp2
   go_ret
   exact ⟨_, by first | rfl | (simp; done) | (simp [*]; done), Kd.R_nil _ _ _ _ _, HB.out⟩
  | some ad0 =>
   go_enter Try.func110, Try.ntmps110
   go_wp2_with (first | ((with_reducible refine gate_dst (N := 5) rfl ?_); refine Kd.R_lit k96 _ 96 ?hg (N := 5) ?hd (xs := ([] : List (S96))) (inner := []) (ok := fun _ => True) (okp := fun _ => True) ?hr ?hp (fun _ hk => hk) trivial (Below.refl _ _) (Nat.le_refl _) (by simp) ?_; (case hd => rfl); (case hg => rfl); (case hr => first | (go_simp; done) | (go_simp; rfl)); (case hp => exact (Reps.none _ _)); intro v401 w3 ho4 hb hg_ hnew_; clear hg_ hnew_; (first | rw [← Ny400.out] at ho4 | (simp only [Int.reduceToNat] at ho4; rw [← Ny400.out] at ho4)); have n0_ := Aside0.mk (Kd.R_lower ho4 (below_size (by repeat (first | (with_reducible first | exact HB.out | apply below_alloc | apply pw_below_drewN | apply below_drew1) | exact HB.out)))); have n1_ := Aside0.mk (below_step (by repeat (first | (with_reducible first | exact HB.out | apply below_alloc | apply pw_below_drewN | apply below_drew1) | exact HB.out)) hb); clear HB; have HO402 := n0_; have HB := n1_; clear n0_ n1_; clear hb ho4) | ((with_reducible refine gate_builtin (b := .append) (xs := #[.tmp 5, .tmp 6]) rfl ?_); at_builtin; refine Kd.R_append_rows k96 (w0 := w) w.heap.size rfl (.tmp 5) (.tmp 6) 32 96 (.agg #[(.int .i64 0), (.int .i64 0), (.int .i64 0), (.int .i64 0), (.int .i64 0)]) 40 rfl Try.underlying32 info96 rfl (by decide) (by omega) v401 y400 l0 _ _ _ (fun _ => True) (fun _ => False) rfl rfl ?aO ?aR (fun _ _ h => h) (fun _ h => h.elim) ?aF ?aB ?aS ?aL ?_; (case aR => repeat (first | exact (Kd.C_below HR0.out HB.out) | (with_reducible refine Kd.C_alloc ?_ _) | (with_reducible refine Kd.C_drewN ?_ _) | (with_reducible refine Kd.C_drew ?_))); (case aB => exact (by repeat (first | (with_reducible first | exact HB.out | apply below_alloc | apply pw_below_drewN | apply below_drew1) | exact HB.out))); (case aF => exact (fun _ _ => trivial)); (case aO => exact (by (with_reducible repeat (first | apply Kd.R_alloc | apply Kd.R_drewN | apply Kd.R_drew)); exact HO402.out)); (case aS => exact (below_size (by repeat (first | (with_reducible first | exact HB.out | apply below_alloc | apply pw_below_drewN | apply below_drew1) | exact HB.out)))); (case aL => have := LMc2.out; omega); intro v404 w5 ho hb hg hat; rw [← Ny403.out] at ho; have n0_ := Aside0.mk (hb); have n1_ := Aside0.mk (ho); clear HB; clear HO402; have HB := n0_; have HO405 := n1_; clear n0_ n1_; clear ho hb hg hat))
   go_ret
   exact ⟨_, by first | rfl | (simp [errW_none, errW_some] <;> rfl) | (simp [*, errW_none, errW_some] <;> rfl), by (with_reducible repeat (first | apply Kd.R_alloc | apply Kd.R_drewN | apply Kd.R_drew)); exact HO405.out, by repeat (first | (with_reducible first | exact HB.out | apply below_alloc | apply pw_below_drewN | apply below_drew1) | exact HB.out)⟩
 ·
  rw [if_neg c2] at H
  exact absurd H (by simp)
def impl_isLot.f (a0_0 : Int) (a0_1 : Int) (a0_2 : Int) (a0_3 : Int) (a0_4 : Int) (a1 : Int) (a2 : Int) : Option (Bool) := if a0_0 = a1 then (some (a0_1 == a2)) else (some false)
theorem impl_isLot.calls (a0_0 : Int) (a0_1 : Int) (a0_2 : Int) (a0_3 : Int) (a0_4 : Int) (a1 : Int) (a2 : Int) (r : Bool) (w : World) (h : impl_isLot.f a0_0 a0_1 a0_2 a0_3 a0_4 a1 a2 = some r) :
 Calls Try.prog 112 #[.agg #[.int .i64 a0_0, .int .i64 a0_1, .int .i64 a0_2, .int .i64 a0_3, .int .i64 a0_4], .int .i64 a1, .int .i64 a2] w fun e w' => e = .returned (.bool r) ∧ Below w.heap.size w w' := by
 have hu96 := Try.underlying96
 have HB := Aside0.mk (Below.refl w.heap.size w)
 have H : (if a0_0 = a1 then (some (a0_1 == a2)) else (some false)) = some r := h
 clear h
 by_cases c4 : a0_0 = a1
 ·
  rw [if_pos c4] at H
  have c4b0 : (a0_0 == a1) = true := beq_iff_eq.mpr c4
  have c4b1 : (a0_0 != a1) = false := bne_eq_false_iff_eq.mpr c4
  clear c4
  obtain rfl := Option.some.inj H
  go_enter Try.func112, Try.ntmps112
  go_wp2_with (first | ((with_reducible refine gate_dst (N := 3) rfl ?_); refine box_event ?hg (N := 3) ?hd (cs := #[.int .i64 a0_0, .int .i64 a0_1, .int .i64 a0_2, .int .i64 a0_3, .int .i64 a0_4]) (t := 96) ?hr ?_; (case hd => rfl); (case hg => rfl); (case hr => first | (go_simp; done) | (go_simp; rfl)); intro gb406 hg w5 hbox hb; have n0_ := Aside0.mk (below_step (by repeat (first | (with_reducible first | exact HB.out | apply below_alloc | apply pw_below_drewN | apply below_drew1) | exact HB.out)) hb); have n1_ := Aside0.mk (hbox); have n2_ := Aside0.mk ((by rw [hg]; exact (below_size (by repeat (first | (with_reducible first | exact HB.out | apply below_alloc | apply pw_below_drewN | apply below_drew1) | exact HB.out))) : w.heap.size ≤ gb406)); have n3_ := Aside0.mk ((by rw [hg]; exact (below_size (by repeat (first | (with_reducible first | exact HB.out | apply below_alloc | apply pw_below_drewN | apply below_drew1) | exact HB.out))) : w.heap.size ≤ gb406)); clear HB; have HB := n0_; have BK406 := n1_; have GW406 := n2_; have GE406 := n3_; clear n0_ n1_ n2_ n3_; clear hb hbox hg; have hcz6_0 : w5.cell? ⟨gb406, 0, none⟩ = some (.int .i64 a0_0) := (blk_cell BK406.out 0).trans rfl; have hcz6_1 : w5.cell? ⟨gb406, 1, none⟩ = some (.int .i64 a0_1) := (blk_cell BK406.out 1).trans rfl; have hcz6_2 : w5.cell? ⟨gb406, 2, none⟩ = some (.int .i64 a0_2) := (blk_cell BK406.out 2).trans rfl; have hcz6_3 : w5.cell? ⟨gb406, 3, none⟩ = some (.int .i64 a0_3) := (blk_cell BK406.out 3).trans rfl; have hcz6_4 : w5.cell? ⟨gb406, 4, none⟩ = some (.int .i64 a0_4) := (blk_cell BK406.out 4).trans rfl; have hfz6_0 := blk_frozen BK406.out 0; have hfz6_1 := blk_frozen BK406.out 1; have hfz6_2 := blk_frozen BK406.out 2; have hfz6_3 := blk_frozen BK406.out 3; have hfz6_4 := blk_frozen BK406.out 4))
  go_ret
  exact ⟨by first | rfl | (simp [errW_none, errW_some] <;> rfl) | (simp [*, errW_none, errW_some] <;> rfl), by repeat (first | (with_reducible first | exact HB.out | apply below_alloc | apply pw_below_drewN | apply below_drew1 | refine below_set ?_ GE406.out) | exact HB.out)⟩
 ·
  rw [if_neg c4] at H
  have c4b0 : (a0_0 == a1) = false := beq_eq_false_iff_ne.mpr c4
  have c4b1 : (a0_0 != a1) = true := bne_iff_ne.mpr c4
  obtain rfl := Option.some.inj H
  go_enter Try.func112, Try.ntmps112
  go_wp2_with (first | ((with_reducible refine gate_dst (N := 3) rfl ?_); refine box_event ?hg (N := 3) ?hd (cs := #[.int .i64 a0_0, .int .i64 a0_1, .int .i64 a0_2, .int .i64 a0_3, .int .i64 a0_4]) (t := 96) ?hr ?_; (case hd => rfl); (case hg => rfl); (case hr => first | (go_simp; done) | (go_simp; rfl)); intro gb406 hg w7 hbox hb; have n0_ := Aside0.mk (below_step (by repeat (first | (with_reducible first | exact HB.out | apply below_alloc | apply pw_below_drewN | apply below_drew1) | exact HB.out)) hb); have n1_ := Aside0.mk (hbox); have n2_ := Aside0.mk ((by rw [hg]; exact (below_size (by repeat (first | (with_reducible first | exact HB.out | apply below_alloc | apply pw_below_drewN | apply below_drew1) | exact HB.out))) : w.heap.size ≤ gb406)); have n3_ := Aside0.mk ((by rw [hg]; exact (below_size (by repeat (first | (with_reducible first | exact HB.out | apply below_alloc | apply pw_below_drewN | apply below_drew1) | exact HB.out))) : w.heap.size ≤ gb406)); clear HB; have HB := n0_; have BK406 := n1_; have GW406 := n2_; have GE406 := n3_; clear n0_ n1_ n2_ n3_; clear hb hbox hg; have hcz8_0 : w7.cell? ⟨gb406, 0, none⟩ = some (.int .i64 a0_0) := (blk_cell BK406.out 0).trans rfl; have hcz8_1 : w7.cell? ⟨gb406, 1, none⟩ = some (.int .i64 a0_1) := (blk_cell BK406.out 1).trans rfl; have hcz8_2 : w7.cell? ⟨gb406, 2, none⟩ = some (.int .i64 a0_2) := (blk_cell BK406.out 2).trans rfl; have hcz8_3 : w7.cell? ⟨gb406, 3, none⟩ = some (.int .i64 a0_3) := (blk_cell BK406.out 3).trans rfl; have hcz8_4 : w7.cell? ⟨gb406, 4, none⟩ = some (.int .i64 a0_4) := (blk_cell BK406.out 4).trans rfl; have hfz8_0 := blk_frozen BK406.out 0; have hfz8_1 := blk_frozen BK406.out 1; have hfz8_2 := blk_frozen BK406.out 2; have hfz8_3 := blk_frozen BK406.out 3; have hfz8_4 := blk_frozen BK406.out 4))
  go_ret
  exact ⟨by first | rfl | (simp [errW_none, errW_some] <;> rfl) | (simp [*, errW_none, errW_some] <;> rfl), by repeat (first | (with_reducible first | exact HB.out | apply below_alloc | apply pw_below_drewN | apply below_drew1 | refine below_set ?_ GE406.out) | exact HB.out)⟩
end Go.Proofs.Ytmfgajbkcnlkcaa.P
namespace Go.Proofs.Ytmfgajbkcnlkcaa.P
open Go.RowKit Go.Proofs.YtmfgajbkcnlkcaaW.PrintWords Go.Proofs.YtmfgajbkcnlkcaaW.PrintLast Go.Proofs.YtmfgajbkcnlkcaaW.PrintMore
attribute [local go_sem] max2_int min2_int max_two min_two max_three min_three max_four min_four   -- for this text's walks alone
set_option linter.unusedVariables false
set_option linter.unusedSimpArgs false
theorem IndexFunc_st96.calls (A0 : Option Addr) (c0 : Nat) (l0 : List (S96)) (fc : FuncId) (caps : Array Value) (p : S96 → Bool) (w : World) (hr0 : Kd.C k96 w A0 l0.length l0) (hc0 : l0.length ≤ c0) (hp : X0.FnB Try.prog fc caps w (fun x => .agg #[.int .i64 x.f0, .int .i64 x.f1, .int .i64 x.f2, .int .i64 x.f3, .int .i64 x.f4]) p) :
 Calls Try.prog 108 #[.slice A0 l0.length c0, .func (.func fc) #[] caps] w fun e w' => e = .returned (.int .i64 (X0.idx p l0)) ∧ Below w.heap.size w w' := by
 obtain ⟨fn, hf, hn, hb, hcall⟩ := hp
 have HR0 := Aside0.mk hr0
 have HC0 := Aside0.mk hc0
 have HF := Aside0.mk hf
 have HN := Aside0.mk hn
 have HBo := Aside0.mk hb
 have HP := Aside0.mk hcall
 have HM := Aside0.mk (Kd.C_max hr0)
 clear hr0 hc0 hf hn hb hcall
 have HB := Aside0.mk (Below.refl w.heap.size w)
 have hu96 := Try.underlying96
 go_enter Try.func108, Try.ntmps108
 go_wp2
 go_loopg [8] l0.length (fun kq v8 w' => ∃ (x : Int), v8 = .int .i64 x ∧ Aside0 (0 ≤ x ∧ x ≤ l0.length ∧ kq = (l0.length - x).toNat ∧ ∀ j : Nat, j < x.toNat → p (l0.getD j z96) = false) ∧ Aside0 (Below w.heap.size w w'))
 case atStart => exact ⟨0, rfl, ⟨Int.le_refl _, by omega, by omega, fun j hj => by omega⟩, ⟨HB.out⟩⟩
 case round =>
  obtain ⟨x, rfl, HA, HB⟩ := hrel
  by_cases c2 : x < (l0.length : Int)
  ·
   have p1 : 0 ≤ x := HA.out.1
   obtain ⟨ad, e, hx_0, hx_1, hx_2, hx_3, hx_4⟩ := at_T96 HR0.out x p1 c2
   cases e
   replace hx_0 := (HB.out.cell (World.block_lt_of_cell? w _ hx_0)).trans hx_0
   replace hx_1 := (HB.out.cell (World.block_lt_of_cell? w _ hx_1)).trans hx_1
   replace hx_2 := (HB.out.cell (World.block_lt_of_cell? w _ hx_2)).trans hx_2
   replace hx_3 := (HB.out.cell (World.block_lt_of_cell? w _ hx_3)).trans hx_3
   replace hx_4 := (HB.out.cell (World.block_lt_of_cell? w _ hx_4)).trans hx_4
   have c2b0 : decide (x < (l0.length : Int)) = true := decide_eq_true c2
   have C2 := Aside0.mk c2
   replace p1 := eq_true p1
   have q1 := eq_true c2
   clear c2
   cases hpx : p (rd_T96 l0 x) with
   | true =>
    have HX := Aside0.mk hpx
    clear hpx
    go_wp2_with (first | ((with_reducible refine gate_dst (N := 16) rfl ?_); refine X0.goesV_ (some 16) rfl rfl caps HF.out HN.out HBo.out #[.agg #[.int .i64 (rd_T96 l0 x).f0, .int .i64 (rd_T96 l0 x).f1, .int .i64 (rd_T96 l0 x).f2, .int .i64 (rd_T96 l0 x).f3, .int .i64 (rd_T96 l0 x).f4]] rfl rfl (by (try simp only [List.map_toArray, List.map_cons, List.map_nil]); first | done | rfl) ?_; refine (HP.out (rd_T96 l0 x) _ HB.out).mono ?_; rintro e w6 ⟨rfl, hb6⟩; refine ⟨_, rfl, ?_⟩; rw [HX.out]; have n0_ := Aside0.mk (below_step HB.out hb6); clear HB; have HB := n0_; clear n0_ hb6))
    go_ret
    exact ⟨by
     have := HA.out
     have h2 := C2.out
     have e1 : rd_T96 l0 x = l0.getD x.toNat z96 := rfl
     have h3 := HX.out
     rw [e1] at h3
     rw [X0.idx_found p z96 l0 x.toNat (by omega) this.2.2.2 h3, Int.toNat_of_nonneg this.1]
     rfl, HB.out⟩
   | false =>
    have HX := Aside0.mk hpx
    clear hpx
    go_wp2_with (first | ((with_reducible refine gate_dst (N := 16) rfl ?_); refine X0.goesV_ (some 16) rfl rfl caps HF.out HN.out HBo.out #[.agg #[.int .i64 (rd_T96 l0 x).f0, .int .i64 (rd_T96 l0 x).f1, .int .i64 (rd_T96 l0 x).f2, .int .i64 (rd_T96 l0 x).f3, .int .i64 (rd_T96 l0 x).f4]] rfl rfl (by (try simp only [List.map_toArray, List.map_cons, List.map_nil]); first | done | rfl) ?_; refine (HP.out (rd_T96 l0 x) _ HB.out).mono ?_; rintro e w6 ⟨rfl, hb6⟩; refine ⟨_, rfl, ?_⟩; rw [HX.out]; have n0_ := Aside0.mk (below_step HB.out hb6); clear HB; have HB := n0_; clear n0_ hb6))
    go_roundg (l0.length - (x + 1)).toNat
    case measure => have := HA.out; have := C2.out; omega
    case rel =>
     have h1 := HA.out
     have h2 := C2.out
     have h4 := HM.out
     refine ⟨wrap64 (x + 1), (by first | rfl | (simp; done) | (simp [*]; done)), ⟨?_⟩, ⟨HB.out⟩⟩
     have hw : wrap64 (x + 1) = x + 1 := by unfold wrap64; omega
     rw [hw]
     refine ⟨by omega, by omega, rfl, fun j hj => ?_⟩
     by_cases hj2 : j < x.toNat
     ·
      exact h1.2.2.2 j hj2
     ·
      obtain rfl : j = x.toNat := by omega
      exact HX.out
  ·
   have c2b0 : decide (x < (l0.length : Int)) = false := decide_eq_false c2
   have C2 := Aside0.mk c2
   clear c2
   go_wp2
   go_ret
   exact ⟨by
    have := HA.out
    have h2 := C2.out
    rw [X0.idx_none p z96 l0 fun j hj => this.2.2.2 j (by omega)]
    rfl, HB.out⟩
theorem ContainsFunc_st96.calls (A0 : Option Addr) (c0 : Nat) (l0 : List (S96)) (fc : FuncId) (caps : Array Value) (p : S96 → Bool) (w : World) (hr0 : Kd.C k96 w A0 l0.length l0) (hc0 : l0.length ≤ c0) (hp : X0.FnB Try.prog fc caps w (fun x => .agg #[.int .i64 x.f0, .int .i64 x.f1, .int .i64 x.f2, .int .i64 x.f3, .int .i64 x.f4]) p) :
 Calls Try.prog 95 #[.slice A0 l0.length c0, .func (.func fc) #[] caps] w fun e w' => e = .returned (.bool (l0.any p)) ∧ Below w.heap.size w w' := by
 have HI := Aside0.mk (IndexFunc_st96.calls A0 c0 l0 fc caps p w hr0 hc0 hp)
 clear hr0 hc0 hp
 go_enter Try.func95, Try.ntmps95
 go_wp2_with (first | (go_at_call 108; refine HI.out.mono ?_; rintro e w6 ⟨rfl, hb6⟩; have HB := Aside0.mk hb6; clear hb6))
 go_ret
 exact ⟨by
  rw [← X0.idx_any p l0]
  rfl, HB.out⟩
theorem delf96_flat : IN.Flat k96 (fun x : S96 => ([.int .i64 x.f0, .int .i64 x.f1, .int .i64 x.f2, .int .i64 x.f3, .int .i64 x.f4] : List Value)) := ⟨fun h => k96_openM h, fun w base ok x => k96_mkM w base ok x, fun h => k96_open h⟩
theorem delf96_zero (w : World) : (zeroValue 96).run Try.prog w = .ok (.agg #[(.int .i64 0), (.int .i64 0), (.int .i64 0), (.int .i64 0), (.int .i64 0)]) w := by
 obtain ⟨i0, hi, hz⟩ := Option.map_eq_some_iff.1 info96
 simp only [Prod.mk.injEq] at hz
 simp [zeroValue, typeInfo, hi, hz.1]
theorem DeleteFunc_st96.some_ (g c i0 : Nat) (l0 : List (S96)) (fc : FuncId) (caps : Array Value) (p : S96 → Bool) (w : World) (hraw : DG.Raw (fun x : S96 => ([.int .i64 x.f0, .int .i64 x.f1, .int .i64 x.f2, .int .i64 x.f3, .int .i64 x.f4] : List Value)) 5 96 c g w l0) (hlc : l0.length ≤ c) (hcm : c ≤ maxLen) (hl : l0.length < 1048577)
 (hp : DG.FnG Try.prog fc caps w g (fun x : S96 => .agg #[.int .i64 x.f0, .int .i64 x.f1, .int .i64 x.f2, .int .i64 x.f3, .int .i64 x.f4]) p) (hi0 : i0 < l0.length) (hx : X0.idx p l0 = (i0 : Int)) (ht : p (l0.getD i0 z96) = true) (ha : ∀ x ∈ l0.take i0, p x = false) :
 Calls Try.prog 109 #[.slice (some ⟨g, 0, none⟩) l0.length c, .func (.func fc) #[] caps] w fun e w' => e = .returned (.slice (some ⟨g, 0, none⟩) (l0.filter fun x => !p x).length c) ∧ w.grownBy w' (some g) ∧ DG.Raw (fun x : S96 => ([.int .i64 x.f0, .int .i64 x.f1, .int .i64 x.f2, .int .i64 x.f3, .int .i64 x.f4] : List Value)) 5 96 c g w' (l0.filter fun x => !p x) := by
 have hu96 := Try.underlying96
 have HI := Aside0.mk (IndexFunc_st96.calls (some ⟨g, 0, none⟩) c l0 fc caps p w (DG.Raw.reads delf96_flat rfl hraw hlc hcm) hlc hp.below)
 obtain ⟨fn, hf, hn, hb, hcall⟩ := hp
 have HF := Aside0.mk hf
 have HN := Aside0.mk hn
 have HBo := Aside0.mk hb
 have HP := Aside0.mk hcall
 have HRW := Aside0.mk hraw
 have HST := Aside0.mk (DG.KI.start (p := p) z96 hi0 ht ha)
 have HX := Aside0.mk hx
 have hm : c ≤ 9223372036854775807 := by unfold maxLen at hcm; exact hcm
 have hne1 : ((i0 : Int) == -1) = false := beq_eq_false_iff_ne.2 (by omega)
 clear hf hn hb hcall hraw ht ha hx
 go_enter Try.func109, Try.ntmps109
 go_wp2_with (go_at_call 108; refine HI.out.mono ?_; rintro e w6 ⟨rfl, hb6⟩; rw [HX.out]; have HB := Aside0.mk hb6; clear hb6)
 go_loopg [5, 6] l0.length (fun kq v5 v6 wr => ∃ (i j : Nat) (xs : List (S96)), v5 = .int .i64 (i : Int) ∧ v6 = .int .i64 (j : Int) ∧ Aside0 (DG.KI p l0 xs i j ∧ l0.length - j ≤ kq) ∧ Aside0 (w.grownBy wr (some g)) ∧ Aside0 (DG.Raw (fun x : S96 => ([.int .i64 x.f0, .int .i64 x.f1, .int .i64 x.f2, .int .i64 x.f3, .int .i64 x.f4] : List Value)) 5 96 c g wr xs))
 case atStart => exact ⟨i0, i0 + 1, l0, rfl, by go_num, ⟨HST.out, by omega⟩, ⟨grown_of_below HB.out _⟩, ⟨HRW.out.later HB.out⟩⟩
 case round =>
  obtain ⟨i, j, xs, rfl, rfl, HK, HG, HR⟩ := hrel
  by_cases hlt : j < l0.length
  ·
   have hxj := (HK.out.1).at z96 hlt
   have hjx : j < xs.length := by rw [HK.out.1.len]; exact hlt
   obtain ⟨x, hx0⟩ : ∃ x, x = l0.getD j z96 := ⟨_, rfl⟩
   have HX0 := Aside0.mk hx0
   have hx_0 := HR.out.cell delf96_flat rfl z96 j 0 hjx (.int .i64 x.f0) (by rw [hxj, ← hx0]; rfl)
   have hx_1 := HR.out.cell delf96_flat rfl z96 j 1 hjx (.int .i64 x.f1) (by rw [hxj, ← hx0]; rfl)
   have hx_2 := HR.out.cell delf96_flat rfl z96 j 2 hjx (.int .i64 x.f2) (by rw [hxj, ← hx0]; rfl)
   have hx_3 := HR.out.cell delf96_flat rfl z96 j 3 hjx (.int .i64 x.f3) (by rw [hxj, ← hx0]; rfl)
   have hx_4 := HR.out.cell delf96_flat rfl z96 j 4 hjx (.int .i64 x.f4) (by rw [hxj, ← hx0]; rfl)
   rw [Nat.add_zero] at hx_0
   have hij : i < j := HK.out.1.lt
   have hjc : j < c := by omega
   clear hxj hjx hx0
   cases hpx : p x with
   | true =>
    have HPX := Aside0.mk hpx
    clear hpx
    go_wp2_with (first | ((with_reducible refine gate_dst (N := 28) rfl ?_); refine X0.goesV_ (some 28) rfl rfl caps HF.out HN.out HBo.out #[.agg #[.int .i64 x.f0, .int .i64 x.f1, .int .i64 x.f2, .int .i64 x.f3, .int .i64 x.f4]] rfl rfl (by (try simp only [List.map_toArray, List.map_cons, List.map_nil]); first | done | rfl) ?_; refine (HP.out x _ (DG.grown_below HG.out (below_alloc (Below.refl _ _) _))).mono ?_; rintro e w9 ⟨rfl, hb9⟩; refine ⟨_, rfl, ?_⟩; rw [HPX.out]; have HB9 := Aside0.mk hb9; skip; clear hb9))
    go_roundg (l0.length - (j + 1))
    case measure => have := HK.out.2; omega
    case rel => exact ⟨i, j + 1, xs, rfl, by go_num, ⟨HK.out.1.skip z96 hlt (by rw [← HX0.out]; exact HPX.out), Nat.le_refl _⟩, ⟨DG.grown_below (DG.grown_below HG.out (below_alloc (Below.refl _ _) _)) HB9.out⟩, ⟨(HR.out.later (below_alloc (Below.refl _ _) _)).later HB9.out⟩⟩
   | false =>
    have HPX := Aside0.mk hpx
    clear hpx
    have hix : i < xs.length := by have := HK.out.1.len; omega
    have hic : i < c := by omega
    have hiz : (i : Int) < (l0.length : Int) := by omega
    go_wp2_with (first | ((with_reducible refine gate_dst (N := 28) rfl ?_); refine X0.goesV_ (some 28) rfl rfl caps HF.out HN.out HBo.out #[.agg #[.int .i64 x.f0, .int .i64 x.f1, .int .i64 x.f2, .int .i64 x.f3, .int .i64 x.f4]] rfl rfl (by (try simp only [List.map_toArray, List.map_cons, List.map_nil]); first | done | rfl) ?_; refine (HP.out x _ (DG.grown_below HG.out (below_alloc (Below.refl _ _) _))).mono ?_; rintro e w9 ⟨rfl, hb9⟩; refine ⟨_, rfl, ?_⟩; rw [HPX.out]; have HB9 := Aside0.mk hb9; have hy_0 := (hb9.cell (p := ⟨wr.heap.size, 0, none⟩) (by simp)).trans ((DG.cell_new wr _ _ 0).trans (rfl : _ = some (Value.int .i64 x.f0))); have hy_1 := (hb9.cell (p := ⟨wr.heap.size, 1, none⟩) (by simp)).trans ((DG.cell_new wr _ _ 1).trans (rfl : _ = some (Value.int .i64 x.f1))); have hy_2 := (hb9.cell (p := ⟨wr.heap.size, 2, none⟩) (by simp)).trans ((DG.cell_new wr _ _ 2).trans (rfl : _ = some (Value.int .i64 x.f2))); have hy_3 := (hb9.cell (p := ⟨wr.heap.size, 3, none⟩) (by simp)).trans ((DG.cell_new wr _ _ 3).trans (rfl : _ = some (Value.int .i64 x.f3))); have hy_4 := (hb9.cell (p := ⟨wr.heap.size, 4, none⟩) (by simp)).trans ((DG.cell_new wr _ _ 4).trans (rfl : _ = some (Value.int .i64 x.f4))); have RW9 := (HR.out.later (below_alloc (Below.refl _ _) (Obj.cells #[.int .i64 x.f0, .int .i64 x.f1, .int .i64 x.f2, .int .i64 x.f3, .int .i64 x.f4] 96 (0, 0)))).later hb9; have hd_0 := RW9.cell delf96_flat rfl z96 i 0 hix (.int .i64 (xs.getD i z96).f0) rfl; have hf_0 := RW9.frozen (i * 5 + 0); have hd_1 := RW9.cell delf96_flat rfl z96 i 1 hix (.int .i64 (xs.getD i z96).f1) rfl; have hf_1 := RW9.frozen (i * 5 + 1); have hd_2 := RW9.cell delf96_flat rfl z96 i 2 hix (.int .i64 (xs.getD i z96).f2) rfl; have hf_2 := RW9.frozen (i * 5 + 2); have hd_3 := RW9.cell delf96_flat rfl z96 i 3 hix (.int .i64 (xs.getD i z96).f3) rfl; have hf_3 := RW9.frozen (i * 5 + 3); have hd_4 := RW9.cell delf96_flat rfl z96 i 4 hix (.int .i64 (xs.getD i z96).f4) rfl; have hf_4 := RW9.frozen (i * 5 + 4); rw [Nat.add_zero] at hd_0 hf_0; have HW9 := Aside0.mk RW9; clear RW9; clear hb9))
    go_roundg (l0.length - (j + 1))
    case measure => have := HK.out.2; omega
    case rel =>
     have hk2 := HK.out.1.keep z96 hlt (by rw [← HX0.out]; exact HPX.out)
     rw [← HX0.out] at hk2
     exact ⟨i + 1, j + 1, xs.set i x, by go_num, by go_num, ⟨hk2, Nat.le_refl _⟩, ⟨DG.grown_row (DG.grown_below (DG.grown_below HG.out (below_alloc (Below.refl _ _) _)) HB9.out) (IN.grown_set (g := g) ([.int .i64 x.f0, .int .i64 x.f1, .int .i64 x.f2, .int .i64 x.f3, .int .i64 x.f4] : List Value) (i * 5))⟩, ⟨HW9.out.set delf96_flat rfl i x hix⟩⟩
  ·
   have hj : j = l0.length := by have := HK.out.1.le; omega
   subst hj
   have hil : i < l0.length := HK.out.1.lt
   have hlen := HK.out.1.len
   have hic : i < c := by omega
   have hic2 : ¬ (c = i) := by omega
   have hcl := fun ty => DL.run_clear_k (P := Try.prog) wr 32 96 ty (.agg #[(.int .i64 0), (.int .i64 0), (.int .i64 0), (.int .i64 0), (.int .i64 0)]) Try.underlying32 delf96_zero 5 rfl (by intro v hv; simp [Value.cells] at hv; simp [hv, Value.oneCell']) g (i * 5) (l0.length - i) (c - i) (fun t ht => HR.out.some_ delf96_flat rfl (i * 5 + t) (by rw [hlen]; omega)) (fun t _ => HR.out.frozen _)
   clear hlen
   go_wp2
   go_ret
   have hdone := HK.out.1.done
   have hlen2 := HK.out.1.len
   have hfl : (l0.filter fun x => !p x).length = i := by rw [← hdone, List.length_take]; omega
   refine ⟨by rw [hfl]; rfl, DG.grown_row HG.out (IN.grown_set _ _), ?_⟩
   rw [← hdone]
   exact HR.out.cut delf96_flat rfl i (by omega) _ (by rw [DL.zeroCells_len, hlen2]; rfl)
theorem DeleteFunc_st96.none_ (A0 : Option Addr) (c0 : Nat) (l0 : List (S96)) (fc : FuncId) (caps : Array Value) (p : S96 → Bool) (w : World) (hr0 : Kd.C k96 w A0 l0.length l0) (hc0 : l0.length ≤ c0) (hp : X0.FnB Try.prog fc caps w (fun x => .agg #[.int .i64 x.f0, .int .i64 x.f1, .int .i64 x.f2, .int .i64 x.f3, .int .i64 x.f4]) p) (hx : X0.idx p l0 = -1) :
 Calls Try.prog 109 #[.slice A0 l0.length c0, .func (.func fc) #[] caps] w fun e w' => e = .returned (.slice A0 l0.length c0) ∧ Below w.heap.size w w' := by
 have HI := Aside0.mk (IndexFunc_st96.calls A0 c0 l0 fc caps p w hr0 hc0 hp)
 have HX := Aside0.mk hx
 clear hr0 hc0 hp hx
 go_enter Try.func109, Try.ntmps109
 go_wp2_with (go_at_call 108; refine HI.out.mono ?_; rintro e w6 ⟨rfl, hb6⟩; rw [HX.out]; have HB := Aside0.mk hb6; clear hb6)
 go_ret
 exact ⟨rfl, HB.out⟩
theorem DeleteFunc_st96.calls (base : Nat) (ok : Nat → Prop) (v : Value) (l0 : List (S96)) (fc : FuncId) (caps : Array Value) (p : S96 → Bool) (w : World) (ho : Kd.R k96 96 w base ok v l0) (hl : l0.length < 1048577) (hb : X0.FnB Try.prog fc caps w (fun x => .agg #[.int .i64 x.f0, .int .i64 x.f1, .int .i64 x.f2, .int .i64 x.f3, .int .i64 x.f4]) p)
 (hp : ∀ g, v.ownBlock = some g → base ≤ g → DG.FnG Try.prog fc caps w g (fun x : S96 => .agg #[.int .i64 x.f0, .int .i64 x.f1, .int .i64 x.f2, .int .i64 x.f3, .int .i64 x.f4]) p) :
 Calls Try.prog 109 #[v, .func (.func fc) #[] caps] w fun e w' => ∃ v', e = .returned v' ∧ Kd.R k96 96 w' base ok v' (l0.filter fun x => !p x) ∧ w.grownBy w' v.ownBlock := by
 rcases DG.idx_cases p z96 l0 with ⟨hx, ha⟩ | ⟨i0, hi0, hx, ht, ha⟩
 ·
  obtain ⟨A0, c0, e0⟩ := Kd.R_slice ho
  subst e0
  have hr := Kd.R_reads' ho
  refine (DeleteFunc_st96.none_ A0 c0 l0 fc caps p w hr.2.2 hr.2.1 hb hx).mono ?_
  rintro e w' ⟨rfl, hb'⟩
  rw [DG.filter_all p l0 ha]
  exact ⟨_, rfl, Kd.R_below ho hb', grown_of_below hb' _⟩
 ·
  obtain ⟨hv, hv2⟩ | ⟨g, c, rfl⟩ := IN.R_cases ho
  ·
   subst hv2
   exact absurd hi0 (Nat.not_lt_zero _)
  obtain ⟨n1, n2, n3, n4, n5, _⟩ := IN.R_raw delf96_flat ho
  have hraw := DG.Raw.of_R delf96_flat ho
  have hFG := hp g (by simp [Value.ownBlock]) n4
  refine (DeleteFunc_st96.some_ g c i0 l0 fc caps p w hraw n2 n3 hl hFG hi0 hx ht ha).mono ?_
  rintro e w' ⟨rfl, hg, hr⟩
  have hfl : (l0.filter fun x => !p x).length ≤ c := Nat.le_trans (List.length_filter_le _ _) n2
  exact ⟨_, rfl, hr.to_R delf96_flat rfl n4 n5 hfl n3, by simpa [Value.ownBlock] using hg⟩
def impl_lotsOf.f (l0 : List (S96)) (a1 a2 : Int) : Option (List (S96)) := if l0.length < 1048577 then some (l0.filter fun x => decide (x.f0 = a1 ∧ x.f1 = a2)) else none
theorem impl_lotsOf.is_ (x : S96) (a1 a2 : Int) : impl_isLot.f x.f0 x.f1 x.f2 x.f3 x.f4 a1 a2 = some (decide (x.f0 = a1 ∧ x.f1 = a2)) := by
 unfold impl_isLot.f
 by_cases h1 : x.f0 = a1 <;> by_cases h2 : x.f1 = a2 <;> simp [h1, h2]
theorem impl_lotsOf.clo (B1 B2 : Nat) (a1 a2 : Int) (x : S96) (W : World) (h1 : W.cell? ⟨B1, 0, none⟩ = some (.int .i64 a1)) (h2 : W.cell? ⟨B2, 0, none⟩ = some (.int .i64 a2)) :
 Calls Try.prog 111 #[.agg #[.int .i64 x.f0, .int .i64 x.f1, .int .i64 x.f2, .int .i64 x.f3, .int .i64 x.f4], .pointer (some ⟨B1, 0, none⟩), .pointer (some ⟨B2, 0, none⟩)] W fun e W' => e = .returned (.bool (!decide (x.f0 = a1 ∧ x.f1 = a2))) ∧ Below W.heap.size W W' := by
 have HB := Aside0.mk (Below.refl W.heap.size W)
 have HI := Aside0.mk (impl_lotsOf.is_ x a1 a2)
 obtain ⟨q, hq⟩ : ∃ q, decide (x.f0 = a1 ∧ x.f1 = a2) = q := ⟨_, rfl⟩
 rw [hq] at HI ⊢
 clear hq
 have HQ := Aside0.mk (show ∀ W2, Below W.heap.size W W2 → Calls Try.prog 112 #[.agg #[.int .i64 x.f0, .int .i64 x.f1, .int .i64 x.f2, .int .i64 x.f3, .int .i64 x.f4], .int .i64 a1, .int .i64 a2] W2 fun e W' => e = .returned (.bool q) ∧ Below W2.heap.size W2 W' from fun W2 _ => impl_isLot.calls _ _ _ _ _ _ _ q W2 HI.out)
 have g1 := Lib.cell?_alloc_some (.cells #[.int .i64 x.f0, .int .i64 x.f1, .int .i64 x.f2, .int .i64 x.f3, .int .i64 x.f4] 96 (0, 0)) h1
 have g2 := Lib.cell?_alloc_some (.cells #[.int .i64 x.f0, .int .i64 x.f1, .int .i64 x.f2, .int .i64 x.f3, .int .i64 x.f4] 96 (0, 0)) h2
 clear h1 h2
 go_enter Try.func111, Try.ntmps111
 go_wp2_with (go_at_call 112; refine (HQ.out _ (below_alloc HB.out _)).mono ?_; rintro e w6 ⟨rfl, hb6⟩; have HB6 := Aside0.mk hb6; clear hb6)
 all_goals
  go_ret
  exact ⟨by first | rfl | (simp; done) | (simp [*]; done), below_step (below_alloc HB.out _) HB6.out⟩
theorem impl_lotsOf.up (w : World) (o1 o2 : Obj) : w.heap.size ≤ ((w.alloc o1).alloc o2).heap.size := by simp; omega
theorem impl_lotsOf.lt1 {w : World} {o1 o2 : Obj} {g : Nat} (h : ((w.alloc o1).alloc o2).heap.size ≤ g) : w.heap.size < g := by simp at h; omega
theorem impl_lotsOf.lt2 {w : World} {o1 o2 : Obj} {g : Nat} (h : ((w.alloc o1).alloc o2).heap.size ≤ g) : w.heap.size + 1 < g := by simp at h; omega
theorem impl_lotsOf.c1 {w w5 : World} {u1 : Value} {t : Nat} {o2 : Obj} (hb : Below ((w.alloc (.cells #[u1] t (0, 0))).alloc o2).heap.size ((w.alloc (.cells #[u1] t (0, 0))).alloc o2) w5) : w5.cell? ⟨w.heap.size, 0, none⟩ = some u1 :=
 (hb.cell (by simp; omega)).trans (Lib.cell?_alloc_some o2 (DG.cell_new w #[u1] t 0))
theorem impl_lotsOf.c2 {w w5 : World} {o1 : Obj} {u2 : Value} {t : Nat} (hb : Below ((w.alloc o1).alloc (.cells #[u2] t (0, 0))).heap.size ((w.alloc o1).alloc (.cells #[u2] t (0, 0))) w5) : w5.cell? ⟨w.heap.size + 1, 0, none⟩ = some u2 := by
 have e : (w.alloc o1).heap.size = w.heap.size + 1 := by simp
 have h := DG.cell_new (w.alloc o1) #[u2] t 0
 rw [e] at h
 exact (hb.cell (by simp)).trans h
theorem impl_lotsOf.own {w : World} {base : Nat} {ok : Nat → Prop} {v : Value} {xs : List (S96)} (h : Kd.R k96 96 w base ok v xs) (k : Nat) (hk : v.ownBlock = some k) : base ≤ k := by
 obtain ⟨hv, _⟩ | ⟨g, c, rfl⟩ := IN.R_cases h
 ·
  subst hv
  simp [Value.ownBlock] at hk
 ·
  obtain ⟨_, _, _, n4, _, _⟩ := IN.R_raw delf96_flat h
  simp [Value.ownBlock] at hk
  omega
theorem impl_lotsOf.predB {B1 B2 : Nat} {a1 a2 : Int} {w : World} (c1 : w.cell? ⟨B1, 0, none⟩ = some (.int .i64 a1)) (c2 : w.cell? ⟨B2, 0, none⟩ = some (.int .i64 a2)) :
 X0.FnB Try.prog 111 #[.pointer (some ⟨B1, 0, none⟩), .pointer (some ⟨B2, 0, none⟩)] w (fun x : S96 => .agg #[.int .i64 x.f0, .int .i64 x.f1, .int .i64 x.f2, .int .i64 x.f3, .int .i64 x.f4]) (fun x => !decide (x.f0 = a1 ∧ x.f1 = a2)) :=
 ⟨_, Try.func111, by kernel_rfl, rfl, fun x W hW => impl_lotsOf.clo B1 B2 a1 a2 x W ((hW.cell (World.block_lt_of_cell? w _ c1)).trans c1) ((hW.cell (World.block_lt_of_cell? w _ c2)).trans c2)⟩
theorem impl_lotsOf.predG {B1 B2 g : Nat} {a1 a2 : Int} {w : World} (c1 : w.cell? ⟨B1, 0, none⟩ = some (.int .i64 a1)) (c2 : w.cell? ⟨B2, 0, none⟩ = some (.int .i64 a2)) (n1 : B1 < g) (n2 : B2 < g) :
 DG.FnG Try.prog 111 #[.pointer (some ⟨B1, 0, none⟩), .pointer (some ⟨B2, 0, none⟩)] w g (fun x : S96 => .agg #[.int .i64 x.f0, .int .i64 x.f1, .int .i64 x.f2, .int .i64 x.f3, .int .i64 x.f4]) (fun x => !decide (x.f0 = a1 ∧ x.f1 = a2)) :=
 ⟨_, Try.func111, by kernel_rfl, rfl, fun x W hW => impl_lotsOf.clo B1 B2 a1 a2 x W (hW.cell c1 (by simp; omega)) (hW.cell c2 (by simp; omega))⟩
theorem impl_lotsOf.calls (A0 : Option Addr) (c0 : Nat) (l0 : List (S96)) (a1 a2 : Int) (r : List (S96)) (w : World) (hr0 : Kd.C k96 w A0 l0.length l0) (hc0 : l0.length ≤ c0) (h : impl_lotsOf.f l0 a1 a2 = some r) :
 Calls Try.prog 98 #[.slice A0 l0.length c0, .int .i64 a1, .int .i64 a2] w fun e w' => ∃ v0_ : Value, e = .returned (v0_) ∧ Kd.R k96 96 w' w.heap.size (fun _ => True) v0_ r ∧ Below w.heap.size w w' := by
 unfold impl_lotsOf.f at h
 by_cases hl : l0.length < 1048577
 ·
  rw [if_pos hl] at h
  obtain rfl := Option.some.inj h
  clear h
  have hcl : impl_Lot.f l0 = some l0 := by
   unfold impl_Lot.f
   rw [Option.bind_some, List.length_nil, if_pos (by omega), List.nil_append]
  have HC := Aside0.mk hcl
  have HR0 := Aside0.mk hr0
  have HC0 := Aside0.mk hc0
  have HB := Aside0.mk (Below.refl w.heap.size w)
  have HL := Aside0.mk hl
  clear hr0 hc0 hcl hl
  go_enter Try.func98, Try.ntmps98
  go_wp2_with (first | (go_at_call 110; refine (impl_Lot.calls A0 c0 l0 l0 _ (Kd.C_alloc (Kd.C_alloc HR0.out _) _) HC0.out HC.out).mono ?_; rintro e w5 ⟨v, rfl, ho, hb⟩; have HO := Aside0.mk ho; have HB5 := Aside0.mk hb; clear ho hb) | (go_at_call 109; refine (DeleteFunc_st96.calls _ _ v l0 111 #[.pointer (some ⟨w.heap.size, 0, none⟩), .pointer (some ⟨w.heap.size + 1, 0, none⟩)] (fun x => !decide (x.f0 = a1 ∧ x.f1 = a2)) _ HO.out HL.out (impl_lotsOf.predB (impl_lotsOf.c1 HB5.out) (impl_lotsOf.c2 HB5.out)) (fun g _ hg => impl_lotsOf.predG (impl_lotsOf.c1 HB5.out) (impl_lotsOf.c2 HB5.out) (impl_lotsOf.lt1 hg) (impl_lotsOf.lt2 hg))).mono ?_; rintro e w6 ⟨v6, rfl, ho, hg⟩; have HO6 := Aside0.mk ho; have HG6 := Aside0.mk hg; clear ho hg))
  go_ret
  have hsz := impl_lotsOf.up w (.cells #[.int .i64 a1] 3 (0, 0)) (.cells #[.int .i64 a2] 3 (0, 0))
  refine ⟨v6, by first | rfl | (simp; done) | (simp [*]; done), ?_, ?_⟩
  ·
   have hR := Kd.R_lower HO6.out hsz
   have e : (l0.filter fun x => !(!decide (x.f0 = a1 ∧ x.f1 = a2))) = l0.filter fun x => decide (x.f0 = a1 ∧ x.f1 = a2) := by simp only [Bool.not_not]
   rw [e] at hR
   exact hR
  ·
   have hb5 := below_step (below_alloc (below_alloc (Below.refl _ _) _) _) HB5.out
   exact hb5.grown HG6.out (below_size hb5) (fun k hk => Nat.le_trans hsz (impl_lotsOf.own HO.out k hk))
 ·
  rw [if_neg hl] at h
  cases h
end Go.Proofs.Ytmfgajbkcnlkcaa.P
namespace Go.Proofs.Ytmfgajbkcnlkcaa.P
open Go.RowKit Go.Proofs.YtmfgajbkcnlkcaaW.PrintWords Go.Proofs.YtmfgajbkcnlkcaaW.PrintLast Go.Proofs.YtmfgajbkcnlkcaaW.PrintMore
attribute [local go_sem] max2_int min2_int max_two min_two max_three min_three max_four min_four   -- for this text's walks alone
set_option linter.unusedVariables false
set_option linter.unusedSimpArgs false
def impl_LotsOk.form (x : S96) : Bool := decide ((1 ≤ x.f0 ∧ x.f0 ≤ 1000) ∧ (1 ≤ x.f1 ∧ x.f1 ≤ 1000) ∧ (1 ≤ x.f2 ∧ x.f2 ≤ 1000000000) ∧ (1 ≤ x.f3 ∧ x.f3 ≤ 1000000000000000) ∧ 0 ≤ x.f4 ∧ x.f4 ≤ 1000000000000000)
def impl_LotsOk.cmp (a b : S96) : Int := if a.f0 < b.f0 then -1 else if b.f0 < a.f0 then 1 else if a.f1 < b.f1 then -1 else if b.f1 < a.f1 then 1 else if a.f2 < b.f2 then -1 else if b.f2 < a.f2 then 1 else 0
def impl_LotsOk.chk (l : List (S96)) : Nat → Nat → Bool
 | 0, _ => true
 | n + 1, i => if impl_LotsOk.form (l.getD i z96) = true ∧ ¬(0 < i ∧ 0 ≤ impl_LotsOk.cmp (l.getD (i - 1) z96) (l.getD i z96)) then impl_LotsOk.chk l n (i + 1) else false
def impl_LotsOk.sum3 (l : List (S96)) (q : Int) : Int := l.foldl (fun q x => wrap64 (q + x.f3)) q
def impl_LotsOk.sum4 (l : List (S96)) (q : Int) : Int := l.foldl (fun q x => wrap64 (q + x.f4)) q
def impl_LotsOk.amt (a : Int) : Bool := decide (-1000000000000000 ≤ a ∧ a ≤ 1000000000000000)
def impl_LotsOk.of (l : List (S96)) (a b : Int) : List (S96) := l.filter fun x => decide (x.f0 = a ∧ x.f1 = b)
def impl_LotsOk.over (l : List (S96)) (x : S96) : Bool := if impl_LotsOk.amt (impl_LotsOk.sum3 (impl_LotsOk.of l x.f0 x.f1) 0) = true then !impl_LotsOk.amt (impl_LotsOk.sum4 (impl_LotsOk.of l x.f0 x.f1) 0) else true
def impl_LotsOk.ok (l : List (S96)) : Bool := if impl_LotsOk.chk l l.length 0 = true then (if (l.length : Int) > 120 then false else !(l.any (impl_LotsOk.over l))) else false
def impl_LotsOk.f (l0 : List (S96)) : Option Bool := if l0.length < 1048577 then some (impl_LotsOk.ok l0) else none
theorem impl_LotsOk.in_ (a lo hi : Int) : impl_in.f a lo hi = some (decide (lo ≤ a ∧ a ≤ hi)) := by
 unfold impl_in.f
 by_cases h : a ≥ lo
 ·
  rw [if_pos h]
  congr 1
  rw [Bool.eq_iff_iff, decide_eq_true_iff, decide_eq_true_iff]
  omega
 ·
  rw [if_neg h]
  congr 1
  symm
  rw [decide_eq_false_iff_not]
  omega
theorem impl_LotsOk.amt_ (a : Int) : impl_AmountOk.f a = some (impl_LotsOk.amt a) := by
 unfold impl_AmountOk.f impl_LotsOk.amt
 rw [impl_LotsOk.in_]
 rfl
theorem impl_LotsOk.no_ (a : Int) : impl_isNo.f a = some (decide (1 ≤ a ∧ a ≤ 1000)) := by
 unfold impl_isNo.f
 rw [impl_LotsOk.in_]
 rfl
theorem impl_LotsOk.form_ (x : S96) : impl_lotForm.f x.f0 x.f1 x.f2 x.f3 x.f4 = some (impl_LotsOk.form x) := by
 unfold impl_lotForm.f impl_LotsOk.form
 simp only [impl_LotsOk.in_, impl_LotsOk.no_, Option.bind_some]
 by_cases h0 : 1 ≤ x.f0 ∧ x.f0 ≤ 1000
 ·
  by_cases h1 : 1 ≤ x.f1 ∧ x.f1 ≤ 1000
  ·
   by_cases h2 : 1 ≤ x.f2 ∧ x.f2 ≤ 1000000000
   ·
    by_cases h3 : 1 ≤ x.f3 ∧ x.f3 ≤ 1000000000000000 <;> simp [h0, h1, h2, h3]
   ·
    simp [h0, h1, h2]
  ·
   simp [h0, h1]
 ·
  simp [h0]
theorem impl_LotsOk.cmp_ (a b : S96) : impl_lotBefore.f 1 a.f0 a.f1 a.f2 a.f3 a.f4 b.f0 b.f1 b.f2 b.f3 b.f4 = some (impl_LotsOk.cmp a b) := by
 unfold impl_lotBefore.f impl_byBoth.f impl_LotsOk.cmp
 simp only [impl_byBoth.j0]
 by_cases h0 : a.f0 < b.f0
 ·
  simp [h0]
 ·
  by_cases h1 : a.f0 = b.f0
  ·
   have n1 : ¬b.f0 < a.f0 := by omega
   by_cases h2 : a.f1 < b.f1
   ·
    simp [h1, h2]
   ·
    by_cases h3 : a.f1 = b.f1
    ·
     by_cases h4 : a.f2 < b.f2
     ·
      simp [h1, h3, h4]
     ·
      by_cases h5 : b.f2 < a.f2 <;> simp [h1, h3, h4, h5]
    ·
     have n3 : b.f1 < a.f1 := by omega
     simp [h1, h2, h3, n3]
  ·
   have n1 : b.f0 < a.f0 := by omega
   simp [h0, h1, n1]
theorem impl_LotsOk.sum_go (l : List (S96)) (hl : l.length < 1048577) : ∀ (n i : Nat) (q c : Int), l.length - i = n → i ≤ l.length → impl_sumLots.l0 (n + 1) q c l (l.length : Int) (i : Int) = some (impl_LotsOk.sum3 (l.drop i) q, impl_LotsOk.sum4 (l.drop i) c)
 | 0, i, q, c, hn, hi => by
  have e : i = l.length := by omega
  subst e
  rw [impl_sumLots.l0, if_neg (by omega), List.drop_length]
  rfl
 | n + 1, i, q, c, hn, hi => by
  have h1 : i < l.length := by omega
  rw [impl_sumLots.l0, if_pos (by omega), if_pos (by omega), if_pos (by omega)]
  have hw : wrap64 ((i : Int) + 1) = ((i + 1 : Nat) : Int) := by
   unfold wrap64
   omega
  rw [hw, impl_LotsOk.sum_go l hl n (i + 1) _ _ (by omega) (by omega), List.drop_eq_getElem_cons h1]
  have e : rd_T96 l (i : Int) = l[i] := by
   unfold rd_T96
   rw [Int.toNat_natCast, List.getD_eq_getElem?_getD, List.getElem?_eq_getElem h1]
   rfl
  rw [e]
  rfl
theorem impl_LotsOk.sum_ (l : List (S96)) (hl : l.length < 1048577) : impl_sumLots.f (l.length + 1) l = some (impl_LotsOk.sum3 l 0, impl_LotsOk.sum4 l 0) := impl_LotsOk.sum_go l hl l.length 0 0 0 (by omega) (by omega)
theorem impl_LotsOk.clo (B : Nat) (A0 : Option Addr) (c0 : Nat) (l0 : List (S96)) (x : S96) (W : World) (h1 : W.cell? ⟨B, 0, none⟩ = some (.slice A0 l0.length c0)) (hC : Kd.C k96 W A0 l0.length l0) (hc0 : l0.length ≤ c0) (hl : l0.length < 1048577) :
 Calls Try.prog 96 #[.agg #[.int .i64 x.f0, .int .i64 x.f1, .int .i64 x.f2, .int .i64 x.f3, .int .i64 x.f4], .pointer (some ⟨B, 0, none⟩)] W fun e W' => e = .returned (.bool (impl_LotsOk.over l0 x)) ∧ Below W.heap.size W W' := by
 have HB := Aside0.mk (Below.refl W.heap.size W)
 have HC := Aside0.mk hC
 have HC0 := Aside0.mk hc0
 have HF : Aside0 (impl_lotsOf.f l0 x.f0 x.f1 = some (impl_LotsOk.of l0 x.f0 x.f1)) := ⟨by
  unfold impl_lotsOf.f
  rw [if_pos hl]
  rfl⟩
 have HL : Aside0 ((impl_LotsOk.of l0 x.f0 x.f1).length < 1048577) := ⟨Nat.lt_of_le_of_lt (List.length_filter_le _ _) hl⟩
 have HO : Aside0 (impl_LotsOk.over l0 x = if impl_LotsOk.amt (impl_LotsOk.sum3 (impl_LotsOk.of l0 x.f0 x.f1) 0) = true then !impl_LotsOk.amt (impl_LotsOk.sum4 (impl_LotsOk.of l0 x.f0 x.f1) 0) else true) := ⟨rfl⟩
 generalize impl_LotsOk.over l0 x = ov at HO ⊢
 generalize impl_LotsOk.of l0 x.f0 x.f1 = part at HF HL HO
 have HS := Aside0.mk (impl_LotsOk.sum_ part HL.out)
 generalize impl_LotsOk.sum3 part 0 = q at HS HO
 generalize impl_LotsOk.sum4 part 0 = c at HS HO
 have HQ := Aside0.mk (impl_LotsOk.amt_ q)
 have HD := Aside0.mk (impl_LotsOk.amt_ c)
 generalize impl_LotsOk.amt q = bq at HQ HO
 generalize impl_LotsOk.amt c = bc at HD HO
 have g1 := Lib.cell?_alloc_some (.cells #[.int .i64 x.f0, .int .i64 x.f1, .int .i64 x.f2, .int .i64 x.f3, .int .i64 x.f4] 96 (0, 0)) h1
 clear h1 hC hc0 hl
 cases bq with
 | true =>
  obtain rfl : ov = !bc := HO.out
  clear HO
  go_enter Try.func96, Try.ntmps96
  go_wp2_with (first | (go_at_call 98; refine (impl_lotsOf.calls A0 c0 l0 x.f0 x.f1 part _ (Kd.C_alloc HC.out _) HC0.out HF.out).mono ?_; rintro e w5 ⟨v, rfl, ho, hb⟩; obtain ⟨A1, c1, rfl, hc1, hr1⟩ := Kd.R_reads ho; have n0_ := Aside0.mk (below_step (below_alloc HB.out _) hb); have HR1 := Aside0.mk hr1; have HC1 := Aside0.mk hc1; clear HB; have HB := n0_; clear n0_ ho hb hr1 hc1) | (go_at_call 97; refine (impl_sumLots.calls (part.length + 1) A1 c1 part q c _ HR1.out HC1.out HS.out).mono ?_; rintro e w6 ⟨rfl, hb⟩; have n0_ := Aside0.mk (below_step HB.out hb); clear HB; have HB := n0_; clear n0_ hb) | (go_at_call_of 91 (Value.int .i64 q); refine (impl_AmountOk.calls q _ _ HQ.out).mono ?_; rintro e w7 ⟨rfl, ⟨nd, rfl⟩⟩) | (go_at_call_of 91 (Value.int .i64 c); refine (impl_AmountOk.calls c _ _ HD.out).mono ?_; rintro e w8 ⟨rfl, ⟨nd, rfl⟩⟩))
  go_ret
  exact ⟨by first | rfl | (simp; done) | (simp [*]; done), by repeat (first | (with_reducible first | exact HB.out | apply below_alloc | apply pw_below_drewN | apply below_drew1) | exact HB.out)⟩
 | false =>
  obtain rfl : ov = true := HO.out
  clear HO
  go_enter Try.func96, Try.ntmps96
  go_wp2_with (first | (go_at_call 98; refine (impl_lotsOf.calls A0 c0 l0 x.f0 x.f1 part _ (Kd.C_alloc HC.out _) HC0.out HF.out).mono ?_; rintro e w5 ⟨v, rfl, ho, hb⟩; obtain ⟨A1, c1, rfl, hc1, hr1⟩ := Kd.R_reads ho; have n0_ := Aside0.mk (below_step (below_alloc HB.out _) hb); have HR1 := Aside0.mk hr1; have HC1 := Aside0.mk hc1; clear HB; have HB := n0_; clear n0_ ho hb hr1 hc1) | (go_at_call 97; refine (impl_sumLots.calls (part.length + 1) A1 c1 part q c _ HR1.out HC1.out HS.out).mono ?_; rintro e w6 ⟨rfl, hb⟩; have n0_ := Aside0.mk (below_step HB.out hb); clear HB; have HB := n0_; clear n0_ hb) | (go_at_call 91; refine (impl_AmountOk.calls q _ _ HQ.out).mono ?_; rintro e w7 ⟨rfl, ⟨nd, rfl⟩⟩))
  go_ret
  exact ⟨by first | rfl | (simp; done) | (simp [*]; done), by repeat (first | (with_reducible first | exact HB.out | apply below_alloc | apply pw_below_drewN | apply below_drew1) | exact HB.out)⟩
theorem impl_LotsOk.pred {B : Nat} {A0 : Option Addr} {c0 : Nat} {l0 : List (S96)} {w : World} (h1 : w.cell? ⟨B, 0, none⟩ = some (.slice A0 l0.length c0)) (hC : Kd.C k96 w A0 l0.length l0) (hc0 : l0.length ≤ c0) (hl : l0.length < 1048577) :
 X0.FnB Try.prog 96 #[.pointer (some ⟨B, 0, none⟩)] w (fun x : S96 => .agg #[.int .i64 x.f0, .int .i64 x.f1, .int .i64 x.f2, .int .i64 x.f3, .int .i64 x.f4]) (impl_LotsOk.over l0) :=
 ⟨_, Try.func96, by kernel_rfl, rfl, fun x W hW => impl_LotsOk.clo B A0 c0 l0 x W ((hW.cell (World.block_lt_of_cell? w _ h1)).trans h1) (Kd.C_below hC hW) hc0 hl⟩
def impl_LotsOk.T4 : Bool × List (List Nat × List Nat) := (true, [([], []), ([0], [0]), ([1], [1]), ([2, 1], [2]), ([3], [3]), ([4, 3], [3, 4]), ([5, 3, 3], [3, 5]), ([6], [6]), ([6], [6]), ([8, 6], [6, 8]), ([7, 9, 6], [6, 7, 9]), ([10, 6], [6, 10]), ([6], [6]), ([11, 12, 6, 6], [6, 11, 12]), ([13, 6], [6, 13]), ([6, 14, 3], [3, 6, 14]), ([3, 15], [3, 15])])
def impl_LotsOk.B4 : List Nat := [0, 1, 3, 7, 15, 31, 63, 127, 127, 383, 1023, 2047, 127, 8191, 16383, 32767, 65535]
theorem impl_LotsOk.tab4 : rtab .any (opsOf Try.f69 4) = impl_LotsOk.T4 := by kernel_rfl
theorem impl_LotsOk.bits4 : waitsOk impl_LotsOk.T4.2 impl_LotsOk.B4 = true := by kernel_rfl
theorem impl_LotsOk.step_ (l : List (S96)) (n : Nat) (x : Int) (h0 : 0 ≤ x) : impl_LotsOk.chk l (n + 1) x.toNat = if impl_LotsOk.form (rd_T96 l x) = true then (if x > 0 then (if 0 ≤ impl_LotsOk.cmp (rd_T96 l (x - 1)) (rd_T96 l x) then false else impl_LotsOk.chk l n (x + 1).toNat) else impl_LotsOk.chk l n (x + 1).toNat) else false := by
 have e1 : (x + 1).toNat = x.toNat + 1 := by omega
 have e2 : (x - 1).toNat = x.toNat - 1 := by omega
 have e3 : x > 0 ↔ 0 < x.toNat := by omega
 unfold rd_T96
 rw [impl_LotsOk.chk, e1, e2]
 generalize impl_LotsOk.form (l.getD x.toNat z96) = b
 generalize impl_LotsOk.cmp (l.getD (x.toNat - 1) z96) (l.getD x.toNat z96) = c
 cases b
 ·
  simp
 ·
  by_cases h1 : 0 < x.toNat
  ·
   have h2 : 0 < x := e3.2 h1
   by_cases h3 : 0 ≤ c
   ·
    simp [h1, h2, h3]
   ·
    simp [h1, h2, h3]
  ·
   have h2 : ¬0 < x := fun h => h1 (e3.1 h)
   simp [h1, h2]
set_option maxHeartbeats 16000000 in
theorem impl_LotsOk.calls (A0 : Option Addr) (c0 : Nat) (l0 : List (S96)) (r : Bool) (w : World) (hr0 : Kd.C k96 w A0 l0.length l0) (hc0 : l0.length ≤ c0) (h : impl_LotsOk.f l0 = some r) :
 Calls Try.prog 69 #[.slice A0 l0.length c0] w fun e w' => e = .returned (.bool r) ∧ Below w.heap.size w w' := by
 have hu96 := Try.underlying96
 unfold impl_LotsOk.f at h
 by_cases hl : l0.length < 1048577
 ·
  rw [if_pos hl] at h
  obtain rfl := Option.some.inj h
  clear h
  have HL := Aside0.mk hl
  have HC0 := Aside0.mk hc0
  have HQ : Aside0 (impl_LotsOk.ok l0 = if impl_LotsOk.chk l0 l0.length 0 = true then (if (l0.length : Int) > 120 then false else !(l0.any (impl_LotsOk.over l0))) else false) := ⟨rfl⟩
  generalize impl_LotsOk.ok l0 = r at HQ ⊢
  generalize hq0 : impl_LotsOk.chk l0 l0.length 0 = q0 at HQ
  have HK := Aside0.mk hq0
  clear hq0
  have HW := Aside0.mk (below_alloc (Below.refl w.heap.size w) (.cells #[.slice A0 l0.length c0] 32 (0, 0)))
  have HX : Aside0 ((w.alloc (.cells #[.slice A0 l0.length c0] 32 (0, 0))).cell? ⟨w.heap.size, 0, none⟩ = some (.slice A0 l0.length c0)) := ⟨DG.cell_new w #[.slice A0 l0.length c0] 32 0⟩
  have HR1 := Aside0.mk (Kd.C_alloc hr0 (.cells #[.slice A0 l0.length c0] 32 (0, 0)))
  clear hr0 hc0 hl
  go_enter Try.func69, Try.ntmps69
  go_wp2
  generalize w.alloc (.cells #[.slice A0 l0.length c0] 32 (0, 0)) = w1 at HW HX HR1 ⊢
  have HB := Aside0.mk (Below.refl w1.heap.size w1)
  go_loopg [7] l0.length (fun kq v7 w' => ∃ (x : Int), v7 = .int .i64 x ∧ Aside0 (0 ≤ x ∧ x ≤ l0.length ∧ kq = (l0.length - x).toNat ∧ impl_LotsOk.chk l0 (l0.length - x).toNat x.toNat = q0) ∧ Aside0 (Below w1.heap.size w1 w'))
  case atStart => exact ⟨0, rfl, ⟨Int.le_refl _, by omega, by omega, by rw [Int.sub_zero, Int.toNat_natCast]; exact HK.out⟩, ⟨HB.out⟩⟩
  case round =>
   clear HB
   obtain ⟨x, rfl, HA, HB⟩ := hrel
   by_cases c3 : x < (l0.length : Int)
   ·
    have c3b0 : decide (x < (l0.length : Int)) = true := decide_eq_true c3
    have p1 : 0 ≤ x := HA.out.1
    have HKx : Aside0 (impl_LotsOk.chk l0 ((l0.length - (x + 1)).toNat + 1) x.toNat = q0) := ⟨by
     have h1 := HA.out.2.2.2
     have e1 : (l0.length - x).toNat = (l0.length - (x + 1)).toNat + 1 := by omega
     rw [e1] at h1
     exact h1⟩
    have C3 := Aside0.mk c3
    obtain ⟨ad, e, hx_0, hx_1, hx_2, hx_3, hx_4⟩ := at_T96 HR1.out x p1 c3
    cases e
    replace hx_0 := (HB.out.cell (World.block_lt_of_cell? w1 _ hx_0)).trans hx_0
    replace hx_1 := (HB.out.cell (World.block_lt_of_cell? w1 _ hx_1)).trans hx_1
    replace hx_2 := (HB.out.cell (World.block_lt_of_cell? w1 _ hx_2)).trans hx_2
    replace hx_3 := (HB.out.cell (World.block_lt_of_cell? w1 _ hx_3)).trans hx_3
    replace hx_4 := (HB.out.cell (World.block_lt_of_cell? w1 _ hx_4)).trans hx_4
    replace p1 := eq_true p1
    have q1 := eq_true c3
    clear c3
    go_upto_region 4 with (first | ((with_reducible refine gate_dst (N := 4) rfl ?_); refine box_event ?hg (N := 4) ?hd (cs := #[.int .i64 0, .int .i64 0, .int .i64 0, .int .i64 0, .int .i64 0]) (t := 96) ?hr ?_; (case hd => rfl); (case hg => rfl); (case hr => first | (go_simp; done) | (go_simp; rfl)); intro gb hg w6 hbox hb; have n0_ := Aside0.mk (below_step (by repeat (first | (with_reducible first | exact HB.out | apply below_alloc | apply pw_below_drewN | apply below_drew1) | exact HB.out)) hb); have n1_ := Aside0.mk (hbox); have n2_ := Aside0.mk ((by rw [hg]; exact (below_size (by repeat (first | (with_reducible first | exact HB.out | apply below_alloc | apply pw_below_drewN | apply below_drew1) | exact HB.out))) : w1.heap.size ≤ gb)); clear HB; have HB := n0_; have BK := n1_; have GE := n2_; clear n0_ n1_ n2_; clear hb hbox hg; have hcz_0 : w6.cell? ⟨gb, 0, none⟩ = some (.int .i64 0) := (blk_cell BK.out 0).trans rfl; have hcz_1 : w6.cell? ⟨gb, 1, none⟩ = some (.int .i64 0) := (blk_cell BK.out 1).trans rfl; have hcz_2 : w6.cell? ⟨gb, 2, none⟩ = some (.int .i64 0) := (blk_cell BK.out 2).trans rfl; have hcz_3 : w6.cell? ⟨gb, 3, none⟩ = some (.int .i64 0) := (blk_cell BK.out 3).trans rfl; have hcz_4 : w6.cell? ⟨gb, 4, none⟩ = some (.int .i64 0) := (blk_cell BK.out 4).trans rfl; have hfz_0 := blk_frozen BK.out 0; have hfz_1 := blk_frozen BK.out 1; have hfz_2 := blk_frozen BK.out 2; have hfz_3 := blk_frozen BK.out 3; have hfz_4 := blk_frozen BK.out 4))
    (try simp only [Act.put, List.setIfInBounds_toArray, List.set_cons_zero, List.set_cons_succ])
    have n0_ : Aside0 ((((((w6.setCell ⟨gb, 0, none⟩ (.int .i64 ((rd_T96 l0 x).f0))).setCell ⟨gb, 1, none⟩ (.int .i64 ((rd_T96 l0 x).f1))).setCell ⟨gb, 2, none⟩ (.int .i64 ((rd_T96 l0 x).f2))).setCell ⟨gb, 3, none⟩ (.int .i64 ((rd_T96 l0 x).f3))).setCell ⟨gb, 4, none⟩ (.int .i64 ((rd_T96 l0 x).f4))).heap[gb]? = some (.cells #[.int .i64 ((rd_T96 l0 x).f0), .int .i64 ((rd_T96 l0 x).f1), .int .i64 ((rd_T96 l0 x).f2), .int .i64 ((rd_T96 l0 x).f3), .int .i64 ((rd_T96 l0 x).f4)] 96 (0, 0))) := ⟨by (with_reducible repeat (first | refine blk_drewN ?_ _ | refine blk_drew ?_ | refine blk_alloc ?_ _)); refine blk_put (cs := #[.int .i64 ((rd_T96 l0 x).f0), .int .i64 ((rd_T96 l0 x).f1), .int .i64 ((rd_T96 l0 x).f2), .int .i64 ((rd_T96 l0 x).f3), .int .i64 0]) ?_ 4 _ rfl; (with_reducible repeat (first | refine blk_drewN ?_ _ | refine blk_drew ?_ | refine blk_alloc ?_ _)); refine blk_put (cs := #[.int .i64 ((rd_T96 l0 x).f0), .int .i64 ((rd_T96 l0 x).f1), .int .i64 ((rd_T96 l0 x).f2), .int .i64 0, .int .i64 0]) ?_ 3 _ rfl; (with_reducible repeat (first | refine blk_drewN ?_ _ | refine blk_drew ?_ | refine blk_alloc ?_ _)); refine blk_put (cs := #[.int .i64 ((rd_T96 l0 x).f0), .int .i64 ((rd_T96 l0 x).f1), .int .i64 0, .int .i64 0, .int .i64 0]) ?_ 2 _ rfl; (with_reducible repeat (first | refine blk_drewN ?_ _ | refine blk_drew ?_ | refine blk_alloc ?_ _)); refine blk_put (cs := #[.int .i64 ((rd_T96 l0 x).f0), .int .i64 0, .int .i64 0, .int .i64 0, .int .i64 0]) ?_ 1 _ rfl; (with_reducible repeat (first | refine blk_drewN ?_ _ | refine blk_drew ?_ | refine blk_alloc ?_ _)); refine blk_put (cs := #[.int .i64 0, .int .i64 0, .int .i64 0, .int .i64 0, .int .i64 0]) ?_ 0 _ rfl; (with_reducible repeat (first | refine blk_drewN ?_ _ | refine blk_drew ?_ | refine blk_alloc ?_ _)); exact BK.out⟩
    have n1_ : Aside0 (Below w1.heap.size w1 (((((w6.setCell ⟨gb, 0, none⟩ (.int .i64 ((rd_T96 l0 x).f0))).setCell ⟨gb, 1, none⟩ (.int .i64 ((rd_T96 l0 x).f1))).setCell ⟨gb, 2, none⟩ (.int .i64 ((rd_T96 l0 x).f2))).setCell ⟨gb, 3, none⟩ (.int .i64 ((rd_T96 l0 x).f3))).setCell ⟨gb, 4, none⟩ (.int .i64 ((rd_T96 l0 x).f4)))) := ⟨by repeat (first | (with_reducible first | exact HB.out | apply below_alloc | apply pw_below_drewN | apply below_drew1 | refine below_set ?_ GE.out) | exact HB.out)⟩
    (try clear BK)
    (try clear HB)
    generalize (((((w6.setCell ⟨gb, 0, none⟩ (.int .i64 ((rd_T96 l0 x).f0))).setCell ⟨gb, 1, none⟩ (.int .i64 ((rd_T96 l0 x).f1))).setCell ⟨gb, 2, none⟩ (.int .i64 ((rd_T96 l0 x).f2))).setCell ⟨gb, 3, none⟩ (.int .i64 ((rd_T96 l0 x).f3))).setCell ⟨gb, 4, none⟩ (.int .i64 ((rd_T96 l0 x).f4))) = w15 at n0_ n1_ ⊢
    have BK := n0_
    have HB := n1_
    clear n0_ n1_
    have n0_ := Aside0.mk (blk_drew BK.out)
    have n1_ := Aside0.mk (below_drew1 HB.out)
    clear BK
    clear HB
    have BK := n0_
    have HB := n1_
    clear n0_ n1_
    have HFm := Aside0.mk (impl_LotsOk.form_ (rd_T96 l0 x))
    have HSt := Aside0.mk (impl_LotsOk.step_ l0 (l0.length - (x + 1)).toNat x HA.out.1)
    cases hfm : impl_LotsOk.form (rd_T96 l0 x) with
    | false =>
     have hq : q0 = false := by
      have h1 := HKx.out
      have h2 := HSt.out
      rw [h1, hfm] at h2
      simpa using h2
     rw [hfm] at HFm
     obtain rfl : r = false := by
      have h1 := HQ.out
      rw [hq] at h1
      simpa using h1
     clear HQ HSt hfm hq
     refine start_ (n := 17) (S := fun w' => w'.cell? ⟨gb, 0, none⟩ = some (.int .i64 ((rd_T96 l0 x).f0)) ∧ w'.cell? ⟨gb, 1, none⟩ = some (.int .i64 ((rd_T96 l0 x).f1)) ∧ w'.cell? ⟨gb, 2, none⟩ = some (.int .i64 ((rd_T96 l0 x).f2)) ∧ w'.cell? ⟨gb, 3, none⟩ = some (.int .i64 ((rd_T96 l0 x).f3)) ∧ w'.cell? ⟨gb, 4, none⟩ = some (.int .i64 ((rd_T96 l0 x).f4)) ∧ w'.cell? ⟨w.heap.size, 0, none⟩ = some (.slice (some ad) l0.length c0)) (ds := []) #[false, false, false, false, false, false, false, false, false, false, false, false, false, false, false, false, false] (by kernel_rfl) rfl rfl ⟨(blk_cell BK.out 0).trans rfl, (blk_cell BK.out 1).trans rfl, (blk_cell BK.out 2).trans rfl, (blk_cell BK.out 3).trans rfl, (blk_cell BK.out 4).trans rfl, ((HB.out.cell (World.block_lt_of_cell? w1 _ HX.out)).trans HX.out)⟩ (fun hHeld => ?_); refine with_tabW impl_LotsOk.tab4 impl_LotsOk.bits4 (fun HT_ HW_ => ?_)
     refine take_ (i := 0) (N := some 12) (v := ?_) (a' := ?_) #[true, false, false, false, false, false, false, false, false, false, false, false, false, false, false, false, false] rfl rfl (take_ofW HT_.out HW_.out (by kernel_rfl)) (fun _ _ _ h => h) (Or.inl ⟨by rfl, ?_⟩) hHeld ?_ ?_
     rotate_left
     ·
      rintro w' ⟨s0, s1, s2, s3, s4, s5⟩
      go_simp
      with_reducible rfl
     rotate_left
     ·
      simp only [Act.put, List.setIfInBounds_toArray, List.set_cons_zero, List.set_cons_succ, i64_w, i32_w]
      rfl
     refine one_ (i := 1) (N := some 13) #[true, true, false, false, false, false, false, false, false, false, false, false, false, false, false, false, false] rfl rfl (one_of HT_.out (by kernel_rfl)) (by decide) (fun K hK => ?_)
     refine goes_ Try.func93 (by kernel_rfl) rfl #[.agg #[.int .i64 ((rd_T96 l0 x).f0), .int .i64 ((rd_T96 l0 x).f1), .int .i64 ((rd_T96 l0 x).f2), .int .i64 ((rd_T96 l0 x).f3), .int .i64 ((rd_T96 l0 x).f4)]] (by rfl) rfl rfl (by (try simp only [List.map_toArray, List.map_cons, List.map_nil]); first | done | rfl | (simp only [i64_w]; rfl)) ?_
     with_reducible refine (impl_lotForm.calls _ _ _ _ _ false _ HFm.out).mono ?_
     rintro e w7 ⟨rfl, hb⟩
     refine ⟨_, rfl, ?_⟩
     have n0_ := Aside0.mk (blk_below (g := gb) (o := .cells #[.int .i64 ((rd_T96 l0 x).f0), .int .i64 ((rd_T96 l0 x).f1), .int .i64 ((rd_T96 l0 x).f2), .int .i64 ((rd_T96 l0 x).f3), .int .i64 ((rd_T96 l0 x).f4)] 96 (0, 0)) (by (with_reducible repeat (first | refine blk_drewN ?_ _ | refine blk_drew ?_ | refine blk_alloc ?_ _)); exact BK.out) hb)
     have n1_ := Aside0.mk (below_step (by repeat (first | (with_reducible first | exact HB.out | apply below_alloc | apply pw_below_drewN | apply below_drew1 | refine below_set ?_ GE.out) | exact HB.out)) hb)
     clear BK
     clear HB
     have BK := n0_
     have HB := n1_
     clear n0_ n1_ hb
     refine hK.out _ _ ⟨(blk_cell BK.out 0).trans rfl, (blk_cell BK.out 1).trans rfl, (blk_cell BK.out 2).trans rfl, (blk_cell BK.out 3).trans rfl, (blk_cell BK.out 4).trans rfl, ((HB.out.cell (World.block_lt_of_cell? w1 _ HX.out)).trans HX.out)⟩ (fun hHeld => ?_)
     clear hK K
     refine norm_ (a' := ?_) ?_ ?_
     rotate_left
     ·
      show Act.put _ (some 13) _ = _
      simp only [Act.put, List.setIfInBounds_toArray, List.set_cons_zero, List.set_cons_succ, i64_w, i32_w]
      rfl
     refine pure_ (i := 2) (N := some 14) (v := ?_) (a' := ?_) #[true, true, true, false, false, false, false, false, false, false, false, false, false, false, false, false, false] rfl rfl (any_of HT_.out (by kernel_rfl)) (fun _ _ _ h => h) (Or.inl ⟨by rfl, ?_⟩) ?_ ?_
     rotate_left
     ·
      intro w'
      go_simp
      with_reducible rfl
     rotate_left
     ·
      simp only [Act.put, List.setIfInBounds_toArray, List.set_cons_zero, List.set_cons_succ, i64_w, i32_w]
      rfl
     refine pure_ (i := 3) (N := some 15) (v := ?_) (a' := ?_) #[true, true, true, true, false, false, false, false, false, false, false, false, false, false, false, false, false] rfl rfl (any_of HT_.out (by kernel_rfl)) (fun _ _ _ h => h) (Or.inl ⟨by rfl, ?_⟩) ?_ ?_
     rotate_left
     ·
      intro w'
      go_simp
      with_reducible rfl
     rotate_left
     ·
      simp only [Act.put, List.setIfInBounds_toArray, List.set_cons_zero, List.set_cons_succ, i64_w, i32_w]
      rfl
     refine pure_ (i := 4) (N := some 16) (v := undef) (a' := ?_) #[true, true, true, true, true, false, false, false, false, false, false, false, false, false, false, false, false] rfl rfl (any_of HT_.out (by kernel_rfl)) (fun _ _ _ h => h) (Or.inr ⟨by rfl, rfl⟩) ?_ ?_
     rotate_left
     ·
      simp only [Act.put, List.setIfInBounds_toArray, List.set_cons_zero, List.set_cons_succ, i64_w, i32_w]
      rfl
     refine pure_ (i := 5) (N := some 17) (v := undef) (a' := ?_) #[true, true, true, true, true, true, false, false, false, false, false, false, false, false, false, false, false] rfl rfl (any_of HT_.out (by kernel_rfl)) (fun _ _ _ h => h) (Or.inr ⟨by rfl, rfl⟩) ?_ ?_
     rotate_left
     ·
      simp only [Act.put, List.setIfInBounds_toArray, List.set_cons_zero, List.set_cons_succ, i64_w, i32_w]
      rfl
     refine pure_ (i := 6) (N := some 18) (v := undef) (a' := ?_) #[true, true, true, true, true, true, true, false, false, false, false, false, false, false, false, false, false] rfl rfl (any_of HT_.out (by kernel_rfl)) (fun _ _ _ h => h) (Or.inr ⟨by rfl, rfl⟩) ?_ ?_
     rotate_left
     ·
      simp only [Act.put, List.setIfInBounds_toArray, List.set_cons_zero, List.set_cons_succ, i64_w, i32_w]
      rfl
     refine pure_ (i := 7) (N := some 19) (v := undef) (a' := ?_) #[true, true, true, true, true, true, true, true, false, false, false, false, false, false, false, false, false] rfl rfl (any_of HT_.out (by kernel_rfl)) (fun _ _ _ h => h) (Or.inr ⟨by rfl, rfl⟩) ?_ ?_
     rotate_left
     ·
      simp only [Act.put, List.setIfInBounds_toArray, List.set_cons_zero, List.set_cons_succ, i64_w, i32_w]
      rfl
     refine pure_ (i := 8) (N := some 20) (v := undef) (a' := ?_) #[true, true, true, true, true, true, true, true, true, false, false, false, false, false, false, false, false] rfl rfl (any_of HT_.out (by kernel_rfl)) (fun _ _ _ h => h) (Or.inr ⟨by rfl, rfl⟩) ?_ ?_
     rotate_left
     ·
      simp only [Act.put, List.setIfInBounds_toArray, List.set_cons_zero, List.set_cons_succ, i64_w, i32_w]
      rfl
     refine pure_ (i := 9) (N := some 21) (v := undef) (a' := ?_) #[true, true, true, true, true, true, true, true, true, true, false, false, false, false, false, false, false] rfl rfl (any_of HT_.out (by kernel_rfl)) (fun _ _ _ h => h) (Or.inr ⟨by rfl, rfl⟩) ?_ ?_
     rotate_left
     ·
      simp only [Act.put, List.setIfInBounds_toArray, List.set_cons_zero, List.set_cons_succ, i64_w, i32_w]
      rfl
     refine pure_ (i := 10) (N := some 22) (v := undef) (a' := ?_) #[true, true, true, true, true, true, true, true, true, true, true, false, false, false, false, false, false] rfl rfl (any_of HT_.out (by kernel_rfl)) (fun _ _ _ h => h) (Or.inr ⟨by rfl, rfl⟩) ?_ ?_
     rotate_left
     ·
      simp only [Act.put, List.setIfInBounds_toArray, List.set_cons_zero, List.set_cons_succ, i64_w, i32_w]
      rfl
     refine pure_ (i := 11) (N := some 23) (v := undef) (a' := ?_) #[true, true, true, true, true, true, true, true, true, true, true, true, false, false, false, false, false] rfl rfl (any_of HT_.out (by kernel_rfl)) (fun _ _ _ h => h) (Or.inr ⟨by rfl, rfl⟩) ?_ ?_
     rotate_left
     ·
      simp only [Act.put, List.setIfInBounds_toArray, List.set_cons_zero, List.set_cons_succ, i64_w, i32_w]
      rfl
     refine pure_ (i := 12) (N := some 24) (v := undef) (a' := ?_) #[true, true, true, true, true, true, true, true, true, true, true, true, true, false, false, false, false] rfl rfl (any_of HT_.out (by kernel_rfl)) (fun _ _ _ h => h) (Or.inr ⟨by rfl, rfl⟩) ?_ ?_
     rotate_left
     ·
      simp only [Act.put, List.setIfInBounds_toArray, List.set_cons_zero, List.set_cons_succ, i64_w, i32_w]
      rfl
     refine pure_ (i := 13) (N := some 25) (v := undef) (a' := ?_) #[true, true, true, true, true, true, true, true, true, true, true, true, true, true, false, false, false] rfl rfl (any_of HT_.out (by kernel_rfl)) (fun _ _ _ h => h) (Or.inr ⟨by rfl, rfl⟩) ?_ ?_
     rotate_left
     ·
      simp only [Act.put, List.setIfInBounds_toArray, List.set_cons_zero, List.set_cons_succ, i64_w, i32_w]
      rfl
     refine pure_ (i := 14) (N := some 26) (v := undef) (a' := ?_) #[true, true, true, true, true, true, true, true, true, true, true, true, true, true, true, false, false] rfl rfl (any_of HT_.out (by kernel_rfl)) (fun _ _ _ h => h) (Or.inr ⟨by rfl, rfl⟩) ?_ ?_
     rotate_left
     ·
      simp only [Act.put, List.setIfInBounds_toArray, List.set_cons_zero, List.set_cons_succ, i64_w, i32_w]
      rfl
     refine pure_ (i := 15) (N := some 27) (v := undef) (a' := ?_) #[true, true, true, true, true, true, true, true, true, true, true, true, true, true, true, true, false] rfl rfl (any_of HT_.out (by kernel_rfl)) (fun _ _ _ h => h) (Or.inr ⟨by rfl, rfl⟩) ?_ ?_
     rotate_left
     ·
      simp only [Act.put, List.setIfInBounds_toArray, List.set_cons_zero, List.set_cons_succ, i64_w, i32_w]
      rfl
     refine pure_ (i := 16) (N := some 28) (v := ?_) (a' := ?_) #[true, true, true, true, true, true, true, true, true, true, true, true, true, true, true, true, true] rfl rfl (any_of HT_.out (by kernel_rfl)) (fun _ _ _ h => h) (Or.inl ⟨by rfl, ?_⟩) ?_ ?_
     rotate_left
     ·
      intro w'
      go_simp
      with_reducible rfl
     rotate_left
     ·
      simp only [Act.put, List.setIfInBounds_toArray, List.set_cons_zero, List.set_cons_succ, i64_w, i32_w]
      rfl
     refine done_ (done_of HT_.out (by kernel_rfl)) ?_
     go_wp2
     go_ret
     exact ⟨by first | rfl | (simp; done) | (simp [*]; done), below_step HW.out (by repeat (first | (with_reducible first | exact HB.out | apply below_alloc | apply pw_below_drewN | apply below_drew1 | refine below_set ?_ GE.out) | exact HB.out))⟩
    | true =>
     rw [hfm] at HFm
     by_cases c10 : x > 0
     ·
      have c10b0 : decide (0 < x) = true := decide_eq_true c10
      have hw1 : wrap64 (x - 1) = x - 1 := by
       have h1 := HA.out
       have h2 := HL.out
       unfold wrap64
       omega
      have PP : Aside0 (0 ≤ wrap64 (x - 1)) := ⟨by omega⟩
      have QQ : Aside0 (wrap64 (x - 1) < (l0.length : Int)) := ⟨by have := C3.out; omega⟩
      have HCm := Aside0.mk (impl_LotsOk.cmp_ (rd_T96 l0 (wrap64 (x - 1))) (rd_T96 l0 x))
      have HS2 : Aside0 (impl_LotsOk.chk l0 ((l0.length - (x + 1)).toNat + 1) x.toNat = if 0 ≤ impl_LotsOk.cmp (rd_T96 l0 (wrap64 (x - 1))) (rd_T96 l0 x) then false else impl_LotsOk.chk l0 (l0.length - (x + 1)).toNat (x + 1).toNat) := ⟨by
       have h1 := HSt.out
       rw [hfm, if_pos rfl, if_pos c10, ← hw1] at h1
       exact h1⟩
      clear HSt hfm c10 hw1
      generalize impl_LotsOk.cmp (rd_T96 l0 (wrap64 (x - 1))) (rd_T96 l0 x) = cc at HCm HS2
      by_cases c11 : cc ≥ 0
      ·
       have c11b0 : decide (0 ≤ cc) = true := decide_eq_true c11
       have hq : q0 = false := by
        have h2 := HS2.out
        rw [if_pos c11] at h2
        exact HKx.out.symm.trans h2
       obtain rfl : r = false := by
        have h1 := HQ.out
        rw [hq] at h1
        simpa using h1
       clear HQ HS2 hq c11
       obtain ⟨ad2, e2, hx2_0, hx2_1, hx2_2, hx2_3, hx2_4⟩ := at_T96 HR1.out (wrap64 (x - 1)) PP.out QQ.out
       have hw_4 := hx2_4
       have hw_3 := hx2_3
       have hw_2 := hx2_2
       have hw_1 := hx2_1
       have hw_0 := hx2_0
       obtain rfl : ad = ad2 := (by injection e2)
       replace hx2_0 := (HB.out.cell (World.block_lt_of_cell? w1 _ hx2_0)).trans hx2_0
       replace hx2_1 := (HB.out.cell (World.block_lt_of_cell? w1 _ hx2_1)).trans hx2_1
       replace hx2_2 := (HB.out.cell (World.block_lt_of_cell? w1 _ hx2_2)).trans hx2_2
       replace hx2_3 := (HB.out.cell (World.block_lt_of_cell? w1 _ hx2_3)).trans hx2_3
       replace hx2_4 := (HB.out.cell (World.block_lt_of_cell? w1 _ hx2_4)).trans hx2_4
       have p2 := eq_true PP.out
       have q2 := eq_true QQ.out
       refine start_ (n := 17) (S := fun w' => w'.cell? ⟨gb, 0, none⟩ = some (.int .i64 ((rd_T96 l0 x).f0)) ∧ w'.cell? ⟨gb, 1, none⟩ = some (.int .i64 ((rd_T96 l0 x).f1)) ∧ w'.cell? ⟨gb, 2, none⟩ = some (.int .i64 ((rd_T96 l0 x).f2)) ∧ w'.cell? ⟨gb, 3, none⟩ = some (.int .i64 ((rd_T96 l0 x).f3)) ∧ w'.cell? ⟨gb, 4, none⟩ = some (.int .i64 ((rd_T96 l0 x).f4)) ∧ w'.cell? ⟨w.heap.size, 0, none⟩ = some (.slice (some ad) l0.length c0) ∧ w'.cell? (ad.add ((wrap64 (x - 1)).toNat * 5)) = some (.int .i64 ((rd_T96 l0 (wrap64 (x - 1))).f0)) ∧ w'.cell? ⟨(ad.add ((wrap64 (x - 1)).toNat * 5)).block, (ad.add ((wrap64 (x - 1)).toNat * 5)).off + 1, none⟩ = some (.int .i64 ((rd_T96 l0 (wrap64 (x - 1))).f1)) ∧ w'.cell? ⟨(ad.add ((wrap64 (x - 1)).toNat * 5)).block, (ad.add ((wrap64 (x - 1)).toNat * 5)).off + 2, none⟩ = some (.int .i64 ((rd_T96 l0 (wrap64 (x - 1))).f2)) ∧ w'.cell? ⟨(ad.add ((wrap64 (x - 1)).toNat * 5)).block, (ad.add ((wrap64 (x - 1)).toNat * 5)).off + 3, none⟩ = some (.int .i64 ((rd_T96 l0 (wrap64 (x - 1))).f3)) ∧ w'.cell? ⟨(ad.add ((wrap64 (x - 1)).toNat * 5)).block, (ad.add ((wrap64 (x - 1)).toNat * 5)).off + 4, none⟩ = some (.int .i64 ((rd_T96 l0 (wrap64 (x - 1))).f4))) (ds := []) #[false, false, false, false, false, false, false, false, false, false, false, false, false, false, false, false, false] (by kernel_rfl) rfl rfl ⟨(blk_cell BK.out 0).trans rfl, (blk_cell BK.out 1).trans rfl, (blk_cell BK.out 2).trans rfl, (blk_cell BK.out 3).trans rfl, (blk_cell BK.out 4).trans rfl, ((HB.out.cell (World.block_lt_of_cell? w1 _ HX.out)).trans HX.out), ((HB.out.cell (World.block_lt_of_cell? w1 _ hw_0)).trans hw_0), ((HB.out.cell (World.block_lt_of_cell? w1 _ hw_1)).trans hw_1), ((HB.out.cell (World.block_lt_of_cell? w1 _ hw_2)).trans hw_2), ((HB.out.cell (World.block_lt_of_cell? w1 _ hw_3)).trans hw_3), ((HB.out.cell (World.block_lt_of_cell? w1 _ hw_4)).trans hw_4)⟩ (fun hHeld => ?_); refine with_tabW impl_LotsOk.tab4 impl_LotsOk.bits4 (fun HT_ HW_ => ?_)
       refine take_ (i := 0) (N := some 12) (v := ?_) (a' := ?_) #[true, false, false, false, false, false, false, false, false, false, false, false, false, false, false, false, false] rfl rfl (take_ofW HT_.out HW_.out (by kernel_rfl)) (fun _ _ _ h => h) (Or.inl ⟨by rfl, ?_⟩) hHeld ?_ ?_
       rotate_left
       ·
        rintro w' ⟨s0, s1, s2, s3, s4, s5, s6, s7, s8, s9, s10⟩
        go_simp
        with_reducible rfl
       rotate_left
       ·
        simp only [Act.put, List.setIfInBounds_toArray, List.set_cons_zero, List.set_cons_succ, i64_w, i32_w]
        rfl
       refine one_ (i := 1) (N := some 13) #[true, true, false, false, false, false, false, false, false, false, false, false, false, false, false, false, false] rfl rfl (one_of HT_.out (by kernel_rfl)) (by decide) (fun K hK => ?_)
       refine goes_ Try.func93 (by kernel_rfl) rfl #[.agg #[.int .i64 ((rd_T96 l0 x).f0), .int .i64 ((rd_T96 l0 x).f1), .int .i64 ((rd_T96 l0 x).f2), .int .i64 ((rd_T96 l0 x).f3), .int .i64 ((rd_T96 l0 x).f4)]] (by rfl) rfl rfl (by (try simp only [List.map_toArray, List.map_cons, List.map_nil]); first | done | rfl | (simp only [i64_w]; rfl)) ?_
       with_reducible refine (impl_lotForm.calls _ _ _ _ _ true _ HFm.out).mono ?_
       rintro e w7 ⟨rfl, hb⟩
       refine ⟨_, rfl, ?_⟩
       have n0_ := Aside0.mk (blk_below (g := gb) (o := .cells #[.int .i64 ((rd_T96 l0 x).f0), .int .i64 ((rd_T96 l0 x).f1), .int .i64 ((rd_T96 l0 x).f2), .int .i64 ((rd_T96 l0 x).f3), .int .i64 ((rd_T96 l0 x).f4)] 96 (0, 0)) (by (with_reducible repeat (first | refine blk_drewN ?_ _ | refine blk_drew ?_ | refine blk_alloc ?_ _)); exact BK.out) hb)
       have n1_ := Aside0.mk (below_step (by repeat (first | (with_reducible first | exact HB.out | apply below_alloc | apply pw_below_drewN | apply below_drew1 | refine below_set ?_ GE.out) | exact HB.out)) hb)
       clear BK
       clear HB
       have BK := n0_
       have HB := n1_
       clear n0_ n1_ hb
       refine hK.out _ _ ⟨(blk_cell BK.out 0).trans rfl, (blk_cell BK.out 1).trans rfl, (blk_cell BK.out 2).trans rfl, (blk_cell BK.out 3).trans rfl, (blk_cell BK.out 4).trans rfl, ((HB.out.cell (World.block_lt_of_cell? w1 _ HX.out)).trans HX.out), ((HB.out.cell (World.block_lt_of_cell? w1 _ hw_0)).trans hw_0), ((HB.out.cell (World.block_lt_of_cell? w1 _ hw_1)).trans hw_1), ((HB.out.cell (World.block_lt_of_cell? w1 _ hw_2)).trans hw_2), ((HB.out.cell (World.block_lt_of_cell? w1 _ hw_3)).trans hw_3), ((HB.out.cell (World.block_lt_of_cell? w1 _ hw_4)).trans hw_4)⟩ (fun hHeld => ?_)
       clear hK K
       refine norm_ (a' := ?_) ?_ ?_
       rotate_left
       ·
        show Act.put _ (some 13) _ = _
        simp only [Act.put, List.setIfInBounds_toArray, List.set_cons_zero, List.set_cons_succ, i64_w, i32_w]
        rfl
       refine pure_ (i := 2) (N := some 14) (v := ?_) (a' := ?_) #[true, true, true, false, false, false, false, false, false, false, false, false, false, false, false, false, false] rfl rfl (any_of HT_.out (by kernel_rfl)) (fun _ _ _ h => h) (Or.inl ⟨by rfl, ?_⟩) ?_ ?_
       rotate_left
       ·
        intro w'
        go_simp
        with_reducible rfl
       rotate_left
       ·
        simp only [Act.put, List.setIfInBounds_toArray, List.set_cons_zero, List.set_cons_succ, i64_w, i32_w]
        rfl
       refine pure_ (i := 3) (N := some 15) (v := ?_) (a' := ?_) #[true, true, true, true, false, false, false, false, false, false, false, false, false, false, false, false, false] rfl rfl (any_of HT_.out (by kernel_rfl)) (fun _ _ _ h => h) (Or.inl ⟨by rfl, ?_⟩) ?_ ?_
       rotate_left
       ·
        intro w'
        go_simp
        with_reducible rfl
       rotate_left
       ·
        simp only [Act.put, List.setIfInBounds_toArray, List.set_cons_zero, List.set_cons_succ, i64_w, i32_w]
        rfl
       refine pure_ (i := 4) (N := some 16) (v := ?_) (a' := ?_) #[true, true, true, true, true, false, false, false, false, false, false, false, false, false, false, false, false] rfl rfl (any_of HT_.out (by kernel_rfl)) (fun _ _ _ h => h) (Or.inl ⟨by rfl, ?_⟩) ?_ ?_
       rotate_left
       ·
        intro w'
        go_simp
        with_reducible rfl
       rotate_left
       ·
        simp only [Act.put, List.setIfInBounds_toArray, List.set_cons_zero, List.set_cons_succ, i64_w, i32_w]
        rfl
       refine pure_ (i := 5) (N := some 17) (v := ?_) (a' := ?_) #[true, true, true, true, true, true, false, false, false, false, false, false, false, false, false, false, false] rfl rfl (any_of HT_.out (by kernel_rfl)) (fun _ _ _ h => h) (Or.inl ⟨by rfl, ?_⟩) ?_ ?_
       rotate_left
       ·
        intro w'
        go_simp
        with_reducible rfl
       rotate_left
       ·
        simp only [Act.put, List.setIfInBounds_toArray, List.set_cons_zero, List.set_cons_succ, i64_w, i32_w]
        rfl
       refine pure_ (i := 6) (N := some 18) (v := ?_) (a' := ?_) #[true, true, true, true, true, true, true, false, false, false, false, false, false, false, false, false, false] rfl rfl (any_of HT_.out (by kernel_rfl)) (fun _ _ _ h => h) (Or.inl ⟨by rfl, ?_⟩) ?_ ?_
       rotate_left
       ·
        intro w'
        go_simp
        with_reducible rfl
       rotate_left
       ·
        simp only [Act.put, List.setIfInBounds_toArray, List.set_cons_zero, List.set_cons_succ, i64_w, i32_w]
        rfl
       refine take_ (i := 7) (N := some 19) (v := ?_) (a' := ?_) #[true, true, true, true, true, true, true, true, false, false, false, false, false, false, false, false, false] rfl rfl (take_ofW HT_.out HW_.out (by kernel_rfl)) (fun _ _ _ h => h) (Or.inl ⟨by rfl, ?_⟩) hHeld ?_ ?_
       rotate_left
       ·
        rintro w' ⟨s0, s1, s2, s3, s4, s5, s6, s7, s8, s9, s10⟩
        go_simp
        with_reducible rfl
       rotate_left
       ·
        simp only [Act.put, List.setIfInBounds_toArray, List.set_cons_zero, List.set_cons_succ, i64_w, i32_w]
        rfl
       refine pure_ (i := 8) (N := some 20) (v := ?_) (a' := ?_) #[true, true, true, true, true, true, true, true, true, false, false, false, false, false, false, false, false] rfl rfl (any_of HT_.out (by kernel_rfl)) (fun _ _ _ h => h) (Or.inl ⟨by rfl, ?_⟩) ?_ ?_
       rotate_left
       ·
        intro w'
        go_simp
        with_reducible rfl
       rotate_left
       ·
        simp only [Act.put, List.setIfInBounds_toArray, List.set_cons_zero, List.set_cons_succ, i64_w, i32_w]
        rfl
       refine pure_ (i := 9) (N := some 21) (v := ?_) (a' := ?_) #[true, true, true, true, true, true, true, true, true, true, false, false, false, false, false, false, false] rfl rfl (any_of HT_.out (by kernel_rfl)) (fun _ _ _ h => h) (Or.inl ⟨by rfl, ?_⟩) ?_ ?_
       rotate_left
       ·
        intro w'
        go_simp
        with_reducible rfl
       rotate_left
       ·
        simp only [Act.put, List.setIfInBounds_toArray, List.set_cons_zero, List.set_cons_succ, i64_w, i32_w]
        rfl
       refine pure_ (i := 10) (N := some 22) (v := ?_) (a' := ?_) #[true, true, true, true, true, true, true, true, true, true, true, false, false, false, false, false, false] rfl rfl (any_of HT_.out (by kernel_rfl)) (fun _ _ _ h => h) (Or.inl ⟨by rfl, ?_⟩) ?_ ?_
       rotate_left
       ·
        intro w'
        go_simp
        with_reducible rfl
       rotate_left
       ·
        simp only [Act.put, List.setIfInBounds_toArray, List.set_cons_zero, List.set_cons_succ, i64_w, i32_w]
        rfl
       refine take_ (i := 11) (N := some 23) (v := ?_) (a' := ?_) #[true, true, true, true, true, true, true, true, true, true, true, true, false, false, false, false, false] rfl rfl (take_ofW HT_.out HW_.out (by kernel_rfl)) (fun _ _ _ h => h) (Or.inl ⟨by rfl, ?_⟩) hHeld ?_ ?_
       rotate_left
       ·
        rintro w' ⟨s0, s1, s2, s3, s4, s5, s6, s7, s8, s9, s10⟩
        go_simp
        with_reducible rfl
       rotate_left
       ·
        simp only [Act.put, List.setIfInBounds_toArray, List.set_cons_zero, List.set_cons_succ, i64_w, i32_w]
        rfl
       refine take_ (i := 12) (N := some 24) (v := ?_) (a' := ?_) #[true, true, true, true, true, true, true, true, true, true, true, true, true, false, false, false, false] rfl rfl (take_ofW HT_.out HW_.out (by kernel_rfl)) (fun _ _ _ h => h) (Or.inl ⟨by rfl, ?_⟩) hHeld ?_ ?_
       rotate_left
       ·
        rintro w' ⟨s0, s1, s2, s3, s4, s5, s6, s7, s8, s9, s10⟩
        go_simp
        with_reducible rfl
       rotate_left
       ·
        simp only [Act.put, List.setIfInBounds_toArray, List.set_cons_zero, List.set_cons_succ, i64_w, i32_w]
        rfl
       refine one_ (i := 13) (N := some 25) #[true, true, true, true, true, true, true, true, true, true, true, true, true, true, false, false, false] rfl rfl (one_of HT_.out (by kernel_rfl)) (by decide) (fun K hK => ?_)
       refine goes_ Try.func94 (by kernel_rfl) rfl #[.agg #[.int .i64 ((rd_T96 l0 (wrap64 (x - 1))).f0), .int .i64 ((rd_T96 l0 (wrap64 (x - 1))).f1), .int .i64 ((rd_T96 l0 (wrap64 (x - 1))).f2), .int .i64 ((rd_T96 l0 (wrap64 (x - 1))).f3), .int .i64 ((rd_T96 l0 (wrap64 (x - 1))).f4)], .agg #[.int .i64 ((rd_T96 l0 x).f0), .int .i64 ((rd_T96 l0 x).f1), .int .i64 ((rd_T96 l0 x).f2), .int .i64 ((rd_T96 l0 x).f3), .int .i64 ((rd_T96 l0 x).f4)]] (by rfl) rfl rfl (by (try simp only [List.map_toArray, List.map_cons, List.map_nil]); first | done | rfl | (simp only [i64_w]; rfl)) ?_
       with_reducible refine (impl_lotBefore.calls 1 _ _ _ _ _ _ _ _ _ _ cc _ HCm.out).mono ?_
       rintro e w8 ⟨rfl, hb⟩
       refine ⟨_, rfl, ?_⟩
       have n0_ := Aside0.mk (blk_below (g := gb) (o := .cells #[.int .i64 ((rd_T96 l0 x).f0), .int .i64 ((rd_T96 l0 x).f1), .int .i64 ((rd_T96 l0 x).f2), .int .i64 ((rd_T96 l0 x).f3), .int .i64 ((rd_T96 l0 x).f4)] 96 (0, 0)) (by (with_reducible repeat (first | refine blk_drewN ?_ _ | refine blk_drew ?_ | refine blk_alloc ?_ _)); exact BK.out) hb)
       have n1_ := Aside0.mk (below_step (by repeat (first | (with_reducible first | exact HB.out | apply below_alloc | apply pw_below_drewN | apply below_drew1 | refine below_set ?_ GE.out) | exact HB.out)) hb)
       clear BK
       clear HB
       have BK := n0_
       have HB := n1_
       clear n0_ n1_ hb
       refine hK.out _ _ ⟨(blk_cell BK.out 0).trans rfl, (blk_cell BK.out 1).trans rfl, (blk_cell BK.out 2).trans rfl, (blk_cell BK.out 3).trans rfl, (blk_cell BK.out 4).trans rfl, ((HB.out.cell (World.block_lt_of_cell? w1 _ HX.out)).trans HX.out), ((HB.out.cell (World.block_lt_of_cell? w1 _ hw_0)).trans hw_0), ((HB.out.cell (World.block_lt_of_cell? w1 _ hw_1)).trans hw_1), ((HB.out.cell (World.block_lt_of_cell? w1 _ hw_2)).trans hw_2), ((HB.out.cell (World.block_lt_of_cell? w1 _ hw_3)).trans hw_3), ((HB.out.cell (World.block_lt_of_cell? w1 _ hw_4)).trans hw_4)⟩ (fun hHeld => ?_)
       clear hK K
       refine norm_ (a' := ?_) ?_ ?_
       rotate_left
       ·
        show Act.put _ (some 25) _ = _
        simp only [Act.put, List.setIfInBounds_toArray, List.set_cons_zero, List.set_cons_succ, i64_w, i32_w]
        rfl
       refine pure_ (i := 14) (N := some 26) (v := ?_) (a' := ?_) #[true, true, true, true, true, true, true, true, true, true, true, true, true, true, true, false, false] rfl rfl (any_of HT_.out (by kernel_rfl)) (fun _ _ _ h => h) (Or.inl ⟨by rfl, ?_⟩) ?_ ?_
       rotate_left
       ·
        intro w'
        go_simp
        with_reducible rfl
       rotate_left
       ·
        simp only [Act.put, List.setIfInBounds_toArray, List.set_cons_zero, List.set_cons_succ, i64_w, i32_w]
        rfl
       refine pure_ (i := 15) (N := some 27) (v := ?_) (a' := ?_) #[true, true, true, true, true, true, true, true, true, true, true, true, true, true, true, true, false] rfl rfl (any_of HT_.out (by kernel_rfl)) (fun _ _ _ h => h) (Or.inl ⟨by rfl, ?_⟩) ?_ ?_
       rotate_left
       ·
        intro w'
        go_simp
        with_reducible rfl
       rotate_left
       ·
        simp only [Act.put, List.setIfInBounds_toArray, List.set_cons_zero, List.set_cons_succ, i64_w, i32_w]
        rfl
       refine pure_ (i := 16) (N := some 28) (v := ?_) (a' := ?_) #[true, true, true, true, true, true, true, true, true, true, true, true, true, true, true, true, true] rfl rfl (any_of HT_.out (by kernel_rfl)) (fun _ _ _ h => h) (Or.inl ⟨by rfl, ?_⟩) ?_ ?_
       rotate_left
       ·
        intro w'
        go_simp
        with_reducible rfl
       rotate_left
       ·
        simp only [Act.put, List.setIfInBounds_toArray, List.set_cons_zero, List.set_cons_succ, i64_w, i32_w]
        rfl
       refine done_ (done_of HT_.out (by kernel_rfl)) ?_
       go_wp2
       go_ret
       exact ⟨by first | rfl | (simp; done) | (simp [*]; done), below_step HW.out (by repeat (first | (with_reducible first | exact HB.out | apply below_alloc | apply pw_below_drewN | apply below_drew1 | refine below_set ?_ GE.out) | exact HB.out))⟩
      ·
       have c11b0 : decide (0 ≤ cc) = false := decide_eq_false c11
       have NX : Aside0 (impl_LotsOk.chk l0 (l0.length - (x + 1)).toNat (x + 1).toNat = q0) := ⟨by
        have h2 := HS2.out
        rw [if_neg c11] at h2
        exact h2.symm.trans HKx.out⟩
       clear HS2 c11
       obtain ⟨ad2, e2, hx2_0, hx2_1, hx2_2, hx2_3, hx2_4⟩ := at_T96 HR1.out (wrap64 (x - 1)) PP.out QQ.out
       have hw_4 := hx2_4
       have hw_3 := hx2_3
       have hw_2 := hx2_2
       have hw_1 := hx2_1
       have hw_0 := hx2_0
       obtain rfl : ad = ad2 := (by injection e2)
       replace hx2_0 := (HB.out.cell (World.block_lt_of_cell? w1 _ hx2_0)).trans hx2_0
       replace hx2_1 := (HB.out.cell (World.block_lt_of_cell? w1 _ hx2_1)).trans hx2_1
       replace hx2_2 := (HB.out.cell (World.block_lt_of_cell? w1 _ hx2_2)).trans hx2_2
       replace hx2_3 := (HB.out.cell (World.block_lt_of_cell? w1 _ hx2_3)).trans hx2_3
       replace hx2_4 := (HB.out.cell (World.block_lt_of_cell? w1 _ hx2_4)).trans hx2_4
       have p2 := eq_true PP.out
       have q2 := eq_true QQ.out
       refine start_ (n := 17) (S := fun w' => w'.cell? ⟨gb, 0, none⟩ = some (.int .i64 ((rd_T96 l0 x).f0)) ∧ w'.cell? ⟨gb, 1, none⟩ = some (.int .i64 ((rd_T96 l0 x).f1)) ∧ w'.cell? ⟨gb, 2, none⟩ = some (.int .i64 ((rd_T96 l0 x).f2)) ∧ w'.cell? ⟨gb, 3, none⟩ = some (.int .i64 ((rd_T96 l0 x).f3)) ∧ w'.cell? ⟨gb, 4, none⟩ = some (.int .i64 ((rd_T96 l0 x).f4)) ∧ w'.cell? ⟨w.heap.size, 0, none⟩ = some (.slice (some ad) l0.length c0) ∧ w'.cell? (ad.add ((wrap64 (x - 1)).toNat * 5)) = some (.int .i64 ((rd_T96 l0 (wrap64 (x - 1))).f0)) ∧ w'.cell? ⟨(ad.add ((wrap64 (x - 1)).toNat * 5)).block, (ad.add ((wrap64 (x - 1)).toNat * 5)).off + 1, none⟩ = some (.int .i64 ((rd_T96 l0 (wrap64 (x - 1))).f1)) ∧ w'.cell? ⟨(ad.add ((wrap64 (x - 1)).toNat * 5)).block, (ad.add ((wrap64 (x - 1)).toNat * 5)).off + 2, none⟩ = some (.int .i64 ((rd_T96 l0 (wrap64 (x - 1))).f2)) ∧ w'.cell? ⟨(ad.add ((wrap64 (x - 1)).toNat * 5)).block, (ad.add ((wrap64 (x - 1)).toNat * 5)).off + 3, none⟩ = some (.int .i64 ((rd_T96 l0 (wrap64 (x - 1))).f3)) ∧ w'.cell? ⟨(ad.add ((wrap64 (x - 1)).toNat * 5)).block, (ad.add ((wrap64 (x - 1)).toNat * 5)).off + 4, none⟩ = some (.int .i64 ((rd_T96 l0 (wrap64 (x - 1))).f4))) (ds := []) #[false, false, false, false, false, false, false, false, false, false, false, false, false, false, false, false, false] (by kernel_rfl) rfl rfl ⟨(blk_cell BK.out 0).trans rfl, (blk_cell BK.out 1).trans rfl, (blk_cell BK.out 2).trans rfl, (blk_cell BK.out 3).trans rfl, (blk_cell BK.out 4).trans rfl, ((HB.out.cell (World.block_lt_of_cell? w1 _ HX.out)).trans HX.out), ((HB.out.cell (World.block_lt_of_cell? w1 _ hw_0)).trans hw_0), ((HB.out.cell (World.block_lt_of_cell? w1 _ hw_1)).trans hw_1), ((HB.out.cell (World.block_lt_of_cell? w1 _ hw_2)).trans hw_2), ((HB.out.cell (World.block_lt_of_cell? w1 _ hw_3)).trans hw_3), ((HB.out.cell (World.block_lt_of_cell? w1 _ hw_4)).trans hw_4)⟩ (fun hHeld => ?_); refine with_tabW impl_LotsOk.tab4 impl_LotsOk.bits4 (fun HT_ HW_ => ?_)
       refine take_ (i := 0) (N := some 12) (v := ?_) (a' := ?_) #[true, false, false, false, false, false, false, false, false, false, false, false, false, false, false, false, false] rfl rfl (take_ofW HT_.out HW_.out (by kernel_rfl)) (fun _ _ _ h => h) (Or.inl ⟨by rfl, ?_⟩) hHeld ?_ ?_
       rotate_left
       ·
        rintro w' ⟨s0, s1, s2, s3, s4, s5, s6, s7, s8, s9, s10⟩
        go_simp
        with_reducible rfl
       rotate_left
       ·
        simp only [Act.put, List.setIfInBounds_toArray, List.set_cons_zero, List.set_cons_succ, i64_w, i32_w]
        rfl
       refine one_ (i := 1) (N := some 13) #[true, true, false, false, false, false, false, false, false, false, false, false, false, false, false, false, false] rfl rfl (one_of HT_.out (by kernel_rfl)) (by decide) (fun K hK => ?_)
       refine goes_ Try.func93 (by kernel_rfl) rfl #[.agg #[.int .i64 ((rd_T96 l0 x).f0), .int .i64 ((rd_T96 l0 x).f1), .int .i64 ((rd_T96 l0 x).f2), .int .i64 ((rd_T96 l0 x).f3), .int .i64 ((rd_T96 l0 x).f4)]] (by rfl) rfl rfl (by (try simp only [List.map_toArray, List.map_cons, List.map_nil]); first | done | rfl | (simp only [i64_w]; rfl)) ?_
       with_reducible refine (impl_lotForm.calls _ _ _ _ _ true _ HFm.out).mono ?_
       rintro e w7 ⟨rfl, hb⟩
       refine ⟨_, rfl, ?_⟩
       have n0_ := Aside0.mk (blk_below (g := gb) (o := .cells #[.int .i64 ((rd_T96 l0 x).f0), .int .i64 ((rd_T96 l0 x).f1), .int .i64 ((rd_T96 l0 x).f2), .int .i64 ((rd_T96 l0 x).f3), .int .i64 ((rd_T96 l0 x).f4)] 96 (0, 0)) (by (with_reducible repeat (first | refine blk_drewN ?_ _ | refine blk_drew ?_ | refine blk_alloc ?_ _)); exact BK.out) hb)
       have n1_ := Aside0.mk (below_step (by repeat (first | (with_reducible first | exact HB.out | apply below_alloc | apply pw_below_drewN | apply below_drew1 | refine below_set ?_ GE.out) | exact HB.out)) hb)
       clear BK
       clear HB
       have BK := n0_
       have HB := n1_
       clear n0_ n1_ hb
       refine hK.out _ _ ⟨(blk_cell BK.out 0).trans rfl, (blk_cell BK.out 1).trans rfl, (blk_cell BK.out 2).trans rfl, (blk_cell BK.out 3).trans rfl, (blk_cell BK.out 4).trans rfl, ((HB.out.cell (World.block_lt_of_cell? w1 _ HX.out)).trans HX.out), ((HB.out.cell (World.block_lt_of_cell? w1 _ hw_0)).trans hw_0), ((HB.out.cell (World.block_lt_of_cell? w1 _ hw_1)).trans hw_1), ((HB.out.cell (World.block_lt_of_cell? w1 _ hw_2)).trans hw_2), ((HB.out.cell (World.block_lt_of_cell? w1 _ hw_3)).trans hw_3), ((HB.out.cell (World.block_lt_of_cell? w1 _ hw_4)).trans hw_4)⟩ (fun hHeld => ?_)
       clear hK K
       refine norm_ (a' := ?_) ?_ ?_
       rotate_left
       ·
        show Act.put _ (some 13) _ = _
        simp only [Act.put, List.setIfInBounds_toArray, List.set_cons_zero, List.set_cons_succ, i64_w, i32_w]
        rfl
       refine pure_ (i := 2) (N := some 14) (v := ?_) (a' := ?_) #[true, true, true, false, false, false, false, false, false, false, false, false, false, false, false, false, false] rfl rfl (any_of HT_.out (by kernel_rfl)) (fun _ _ _ h => h) (Or.inl ⟨by rfl, ?_⟩) ?_ ?_
       rotate_left
       ·
        intro w'
        go_simp
        with_reducible rfl
       rotate_left
       ·
        simp only [Act.put, List.setIfInBounds_toArray, List.set_cons_zero, List.set_cons_succ, i64_w, i32_w]
        rfl
       refine pure_ (i := 3) (N := some 15) (v := ?_) (a' := ?_) #[true, true, true, true, false, false, false, false, false, false, false, false, false, false, false, false, false] rfl rfl (any_of HT_.out (by kernel_rfl)) (fun _ _ _ h => h) (Or.inl ⟨by rfl, ?_⟩) ?_ ?_
       rotate_left
       ·
        intro w'
        go_simp
        with_reducible rfl
       rotate_left
       ·
        simp only [Act.put, List.setIfInBounds_toArray, List.set_cons_zero, List.set_cons_succ, i64_w, i32_w]
        rfl
       refine pure_ (i := 4) (N := some 16) (v := ?_) (a' := ?_) #[true, true, true, true, true, false, false, false, false, false, false, false, false, false, false, false, false] rfl rfl (any_of HT_.out (by kernel_rfl)) (fun _ _ _ h => h) (Or.inl ⟨by rfl, ?_⟩) ?_ ?_
       rotate_left
       ·
        intro w'
        go_simp
        with_reducible rfl
       rotate_left
       ·
        simp only [Act.put, List.setIfInBounds_toArray, List.set_cons_zero, List.set_cons_succ, i64_w, i32_w]
        rfl
       refine pure_ (i := 5) (N := some 17) (v := ?_) (a' := ?_) #[true, true, true, true, true, true, false, false, false, false, false, false, false, false, false, false, false] rfl rfl (any_of HT_.out (by kernel_rfl)) (fun _ _ _ h => h) (Or.inl ⟨by rfl, ?_⟩) ?_ ?_
       rotate_left
       ·
        intro w'
        go_simp
        with_reducible rfl
       rotate_left
       ·
        simp only [Act.put, List.setIfInBounds_toArray, List.set_cons_zero, List.set_cons_succ, i64_w, i32_w]
        rfl
       refine pure_ (i := 6) (N := some 18) (v := ?_) (a' := ?_) #[true, true, true, true, true, true, true, false, false, false, false, false, false, false, false, false, false] rfl rfl (any_of HT_.out (by kernel_rfl)) (fun _ _ _ h => h) (Or.inl ⟨by rfl, ?_⟩) ?_ ?_
       rotate_left
       ·
        intro w'
        go_simp
        with_reducible rfl
       rotate_left
       ·
        simp only [Act.put, List.setIfInBounds_toArray, List.set_cons_zero, List.set_cons_succ, i64_w, i32_w]
        rfl
       refine take_ (i := 7) (N := some 19) (v := ?_) (a' := ?_) #[true, true, true, true, true, true, true, true, false, false, false, false, false, false, false, false, false] rfl rfl (take_ofW HT_.out HW_.out (by kernel_rfl)) (fun _ _ _ h => h) (Or.inl ⟨by rfl, ?_⟩) hHeld ?_ ?_
       rotate_left
       ·
        rintro w' ⟨s0, s1, s2, s3, s4, s5, s6, s7, s8, s9, s10⟩
        go_simp
        with_reducible rfl
       rotate_left
       ·
        simp only [Act.put, List.setIfInBounds_toArray, List.set_cons_zero, List.set_cons_succ, i64_w, i32_w]
        rfl
       refine pure_ (i := 8) (N := some 20) (v := ?_) (a' := ?_) #[true, true, true, true, true, true, true, true, true, false, false, false, false, false, false, false, false] rfl rfl (any_of HT_.out (by kernel_rfl)) (fun _ _ _ h => h) (Or.inl ⟨by rfl, ?_⟩) ?_ ?_
       rotate_left
       ·
        intro w'
        go_simp
        with_reducible rfl
       rotate_left
       ·
        simp only [Act.put, List.setIfInBounds_toArray, List.set_cons_zero, List.set_cons_succ, i64_w, i32_w]
        rfl
       refine pure_ (i := 9) (N := some 21) (v := ?_) (a' := ?_) #[true, true, true, true, true, true, true, true, true, true, false, false, false, false, false, false, false] rfl rfl (any_of HT_.out (by kernel_rfl)) (fun _ _ _ h => h) (Or.inl ⟨by rfl, ?_⟩) ?_ ?_
       rotate_left
       ·
        intro w'
        go_simp
        with_reducible rfl
       rotate_left
       ·
        simp only [Act.put, List.setIfInBounds_toArray, List.set_cons_zero, List.set_cons_succ, i64_w, i32_w]
        rfl
       refine pure_ (i := 10) (N := some 22) (v := ?_) (a' := ?_) #[true, true, true, true, true, true, true, true, true, true, true, false, false, false, false, false, false] rfl rfl (any_of HT_.out (by kernel_rfl)) (fun _ _ _ h => h) (Or.inl ⟨by rfl, ?_⟩) ?_ ?_
       rotate_left
       ·
        intro w'
        go_simp
        with_reducible rfl
       rotate_left
       ·
        simp only [Act.put, List.setIfInBounds_toArray, List.set_cons_zero, List.set_cons_succ, i64_w, i32_w]
        rfl
       refine take_ (i := 11) (N := some 23) (v := ?_) (a' := ?_) #[true, true, true, true, true, true, true, true, true, true, true, true, false, false, false, false, false] rfl rfl (take_ofW HT_.out HW_.out (by kernel_rfl)) (fun _ _ _ h => h) (Or.inl ⟨by rfl, ?_⟩) hHeld ?_ ?_
       rotate_left
       ·
        rintro w' ⟨s0, s1, s2, s3, s4, s5, s6, s7, s8, s9, s10⟩
        go_simp
        with_reducible rfl
       rotate_left
       ·
        simp only [Act.put, List.setIfInBounds_toArray, List.set_cons_zero, List.set_cons_succ, i64_w, i32_w]
        rfl
       refine take_ (i := 12) (N := some 24) (v := ?_) (a' := ?_) #[true, true, true, true, true, true, true, true, true, true, true, true, true, false, false, false, false] rfl rfl (take_ofW HT_.out HW_.out (by kernel_rfl)) (fun _ _ _ h => h) (Or.inl ⟨by rfl, ?_⟩) hHeld ?_ ?_
       rotate_left
       ·
        rintro w' ⟨s0, s1, s2, s3, s4, s5, s6, s7, s8, s9, s10⟩
        go_simp
        with_reducible rfl
       rotate_left
       ·
        simp only [Act.put, List.setIfInBounds_toArray, List.set_cons_zero, List.set_cons_succ, i64_w, i32_w]
        rfl
       refine one_ (i := 13) (N := some 25) #[true, true, true, true, true, true, true, true, true, true, true, true, true, true, false, false, false] rfl rfl (one_of HT_.out (by kernel_rfl)) (by decide) (fun K hK => ?_)
       refine goes_ Try.func94 (by kernel_rfl) rfl #[.agg #[.int .i64 ((rd_T96 l0 (wrap64 (x - 1))).f0), .int .i64 ((rd_T96 l0 (wrap64 (x - 1))).f1), .int .i64 ((rd_T96 l0 (wrap64 (x - 1))).f2), .int .i64 ((rd_T96 l0 (wrap64 (x - 1))).f3), .int .i64 ((rd_T96 l0 (wrap64 (x - 1))).f4)], .agg #[.int .i64 ((rd_T96 l0 x).f0), .int .i64 ((rd_T96 l0 x).f1), .int .i64 ((rd_T96 l0 x).f2), .int .i64 ((rd_T96 l0 x).f3), .int .i64 ((rd_T96 l0 x).f4)]] (by rfl) rfl rfl (by (try simp only [List.map_toArray, List.map_cons, List.map_nil]); first | done | rfl | (simp only [i64_w]; rfl)) ?_
       with_reducible refine (impl_lotBefore.calls 1 _ _ _ _ _ _ _ _ _ _ cc _ HCm.out).mono ?_
       rintro e w8 ⟨rfl, hb⟩
       refine ⟨_, rfl, ?_⟩
       have n0_ := Aside0.mk (blk_below (g := gb) (o := .cells #[.int .i64 ((rd_T96 l0 x).f0), .int .i64 ((rd_T96 l0 x).f1), .int .i64 ((rd_T96 l0 x).f2), .int .i64 ((rd_T96 l0 x).f3), .int .i64 ((rd_T96 l0 x).f4)] 96 (0, 0)) (by (with_reducible repeat (first | refine blk_drewN ?_ _ | refine blk_drew ?_ | refine blk_alloc ?_ _)); exact BK.out) hb)
       have n1_ := Aside0.mk (below_step (by repeat (first | (with_reducible first | exact HB.out | apply below_alloc | apply pw_below_drewN | apply below_drew1 | refine below_set ?_ GE.out) | exact HB.out)) hb)
       clear BK
       clear HB
       have BK := n0_
       have HB := n1_
       clear n0_ n1_ hb
       refine hK.out _ _ ⟨(blk_cell BK.out 0).trans rfl, (blk_cell BK.out 1).trans rfl, (blk_cell BK.out 2).trans rfl, (blk_cell BK.out 3).trans rfl, (blk_cell BK.out 4).trans rfl, ((HB.out.cell (World.block_lt_of_cell? w1 _ HX.out)).trans HX.out), ((HB.out.cell (World.block_lt_of_cell? w1 _ hw_0)).trans hw_0), ((HB.out.cell (World.block_lt_of_cell? w1 _ hw_1)).trans hw_1), ((HB.out.cell (World.block_lt_of_cell? w1 _ hw_2)).trans hw_2), ((HB.out.cell (World.block_lt_of_cell? w1 _ hw_3)).trans hw_3), ((HB.out.cell (World.block_lt_of_cell? w1 _ hw_4)).trans hw_4)⟩ (fun hHeld => ?_)
       clear hK K
       refine norm_ (a' := ?_) ?_ ?_
       rotate_left
       ·
        show Act.put _ (some 25) _ = _
        simp only [Act.put, List.setIfInBounds_toArray, List.set_cons_zero, List.set_cons_succ, i64_w, i32_w]
        rfl
       refine pure_ (i := 14) (N := some 26) (v := ?_) (a' := ?_) #[true, true, true, true, true, true, true, true, true, true, true, true, true, true, true, false, false] rfl rfl (any_of HT_.out (by kernel_rfl)) (fun _ _ _ h => h) (Or.inl ⟨by rfl, ?_⟩) ?_ ?_
       rotate_left
       ·
        intro w'
        go_simp
        with_reducible rfl
       rotate_left
       ·
        simp only [Act.put, List.setIfInBounds_toArray, List.set_cons_zero, List.set_cons_succ, i64_w, i32_w]
        rfl
       refine pure_ (i := 15) (N := some 27) (v := ?_) (a' := ?_) #[true, true, true, true, true, true, true, true, true, true, true, true, true, true, true, true, false] rfl rfl (any_of HT_.out (by kernel_rfl)) (fun _ _ _ h => h) (Or.inl ⟨by rfl, ?_⟩) ?_ ?_
       rotate_left
       ·
        intro w'
        go_simp
        with_reducible rfl
       rotate_left
       ·
        simp only [Act.put, List.setIfInBounds_toArray, List.set_cons_zero, List.set_cons_succ, i64_w, i32_w]
        rfl
       refine pure_ (i := 16) (N := some 28) (v := ?_) (a' := ?_) #[true, true, true, true, true, true, true, true, true, true, true, true, true, true, true, true, true] rfl rfl (any_of HT_.out (by kernel_rfl)) (fun _ _ _ h => h) (Or.inl ⟨by rfl, ?_⟩) ?_ ?_
       rotate_left
       ·
        intro w'
        go_simp
        with_reducible rfl
       rotate_left
       ·
        simp only [Act.put, List.setIfInBounds_toArray, List.set_cons_zero, List.set_cons_succ, i64_w, i32_w]
        rfl
       refine done_ (done_of HT_.out (by kernel_rfl)) ?_
       try go_wp2
       go_roundg (l0.length - (x + 1)).toNat
       case measure => have := HA.out; have := C3.out; omega
       case rel =>
        have h1 := HA.out
        have h2 := C3.out
        refine ⟨wrap64 (x + 1), (by first | rfl | (simp; done) | (simp [*]; done)), ⟨?_⟩, ⟨by repeat (first | (with_reducible first | exact HB.out | apply below_alloc | apply pw_below_drewN | apply below_drew1 | refine below_set ?_ GE.out) | exact HB.out)⟩⟩
        have hw : wrap64 (x + 1) = x + 1 := by
         have := HL.out
         unfold wrap64
         omega
        rw [hw]
        exact ⟨by omega, by omega, rfl, NX.out⟩
     ·
      have c10b0 : decide (0 < x) = false := decide_eq_false c10
      have NX : Aside0 (impl_LotsOk.chk l0 (l0.length - (x + 1)).toNat (x + 1).toNat = q0) := ⟨by
       have h1 := HSt.out
       rw [hfm, if_pos rfl, if_neg c10] at h1
       exact h1.symm.trans HKx.out⟩
      clear HSt hfm c10
      refine start_ (n := 17) (S := fun w' => w'.cell? ⟨gb, 0, none⟩ = some (.int .i64 ((rd_T96 l0 x).f0)) ∧ w'.cell? ⟨gb, 1, none⟩ = some (.int .i64 ((rd_T96 l0 x).f1)) ∧ w'.cell? ⟨gb, 2, none⟩ = some (.int .i64 ((rd_T96 l0 x).f2)) ∧ w'.cell? ⟨gb, 3, none⟩ = some (.int .i64 ((rd_T96 l0 x).f3)) ∧ w'.cell? ⟨gb, 4, none⟩ = some (.int .i64 ((rd_T96 l0 x).f4)) ∧ w'.cell? ⟨w.heap.size, 0, none⟩ = some (.slice (some ad) l0.length c0)) (ds := []) #[false, false, false, false, false, false, false, false, false, false, false, false, false, false, false, false, false] (by kernel_rfl) rfl rfl ⟨(blk_cell BK.out 0).trans rfl, (blk_cell BK.out 1).trans rfl, (blk_cell BK.out 2).trans rfl, (blk_cell BK.out 3).trans rfl, (blk_cell BK.out 4).trans rfl, ((HB.out.cell (World.block_lt_of_cell? w1 _ HX.out)).trans HX.out)⟩ (fun hHeld => ?_); refine with_tabW impl_LotsOk.tab4 impl_LotsOk.bits4 (fun HT_ HW_ => ?_)
      refine take_ (i := 0) (N := some 12) (v := ?_) (a' := ?_) #[true, false, false, false, false, false, false, false, false, false, false, false, false, false, false, false, false] rfl rfl (take_ofW HT_.out HW_.out (by kernel_rfl)) (fun _ _ _ h => h) (Or.inl ⟨by rfl, ?_⟩) hHeld ?_ ?_
      rotate_left
      ·
       rintro w' ⟨s0, s1, s2, s3, s4, s5⟩
       go_simp
       with_reducible rfl
      rotate_left
      ·
       simp only [Act.put, List.setIfInBounds_toArray, List.set_cons_zero, List.set_cons_succ, i64_w, i32_w]
       rfl
      refine one_ (i := 1) (N := some 13) #[true, true, false, false, false, false, false, false, false, false, false, false, false, false, false, false, false] rfl rfl (one_of HT_.out (by kernel_rfl)) (by decide) (fun K hK => ?_)
      refine goes_ Try.func93 (by kernel_rfl) rfl #[.agg #[.int .i64 ((rd_T96 l0 x).f0), .int .i64 ((rd_T96 l0 x).f1), .int .i64 ((rd_T96 l0 x).f2), .int .i64 ((rd_T96 l0 x).f3), .int .i64 ((rd_T96 l0 x).f4)]] (by rfl) rfl rfl (by (try simp only [List.map_toArray, List.map_cons, List.map_nil]); first | done | rfl | (simp only [i64_w]; rfl)) ?_
      with_reducible refine (impl_lotForm.calls _ _ _ _ _ true _ HFm.out).mono ?_
      rintro e w7 ⟨rfl, hb⟩
      refine ⟨_, rfl, ?_⟩
      have n0_ := Aside0.mk (blk_below (g := gb) (o := .cells #[.int .i64 ((rd_T96 l0 x).f0), .int .i64 ((rd_T96 l0 x).f1), .int .i64 ((rd_T96 l0 x).f2), .int .i64 ((rd_T96 l0 x).f3), .int .i64 ((rd_T96 l0 x).f4)] 96 (0, 0)) (by (with_reducible repeat (first | refine blk_drewN ?_ _ | refine blk_drew ?_ | refine blk_alloc ?_ _)); exact BK.out) hb)
      have n1_ := Aside0.mk (below_step (by repeat (first | (with_reducible first | exact HB.out | apply below_alloc | apply pw_below_drewN | apply below_drew1 | refine below_set ?_ GE.out) | exact HB.out)) hb)
      clear BK
      clear HB
      have BK := n0_
      have HB := n1_
      clear n0_ n1_ hb
      refine hK.out _ _ ⟨(blk_cell BK.out 0).trans rfl, (blk_cell BK.out 1).trans rfl, (blk_cell BK.out 2).trans rfl, (blk_cell BK.out 3).trans rfl, (blk_cell BK.out 4).trans rfl, ((HB.out.cell (World.block_lt_of_cell? w1 _ HX.out)).trans HX.out)⟩ (fun hHeld => ?_)
      clear hK K
      refine norm_ (a' := ?_) ?_ ?_
      rotate_left
      ·
       show Act.put _ (some 13) _ = _
       simp only [Act.put, List.setIfInBounds_toArray, List.set_cons_zero, List.set_cons_succ, i64_w, i32_w]
       rfl
      refine pure_ (i := 2) (N := some 14) (v := ?_) (a' := ?_) #[true, true, true, false, false, false, false, false, false, false, false, false, false, false, false, false, false] rfl rfl (any_of HT_.out (by kernel_rfl)) (fun _ _ _ h => h) (Or.inl ⟨by rfl, ?_⟩) ?_ ?_
      rotate_left
      ·
       intro w'
       go_simp
       with_reducible rfl
      rotate_left
      ·
       simp only [Act.put, List.setIfInBounds_toArray, List.set_cons_zero, List.set_cons_succ, i64_w, i32_w]
       rfl
      refine pure_ (i := 3) (N := some 15) (v := ?_) (a' := ?_) #[true, true, true, true, false, false, false, false, false, false, false, false, false, false, false, false, false] rfl rfl (any_of HT_.out (by kernel_rfl)) (fun _ _ _ h => h) (Or.inl ⟨by rfl, ?_⟩) ?_ ?_
      rotate_left
      ·
       intro w'
       go_simp
       with_reducible rfl
      rotate_left
      ·
       simp only [Act.put, List.setIfInBounds_toArray, List.set_cons_zero, List.set_cons_succ, i64_w, i32_w]
       rfl
      refine pure_ (i := 4) (N := some 16) (v := ?_) (a' := ?_) #[true, true, true, true, true, false, false, false, false, false, false, false, false, false, false, false, false] rfl rfl (any_of HT_.out (by kernel_rfl)) (fun _ _ _ h => h) (Or.inl ⟨by rfl, ?_⟩) ?_ ?_
      rotate_left
      ·
       intro w'
       go_simp
       with_reducible rfl
      rotate_left
      ·
       simp only [Act.put, List.setIfInBounds_toArray, List.set_cons_zero, List.set_cons_succ, i64_w, i32_w]
       rfl
      refine pure_ (i := 5) (N := some 17) (v := ?_) (a' := ?_) #[true, true, true, true, true, true, false, false, false, false, false, false, false, false, false, false, false] rfl rfl (any_of HT_.out (by kernel_rfl)) (fun _ _ _ h => h) (Or.inl ⟨by rfl, ?_⟩) ?_ ?_
      rotate_left
      ·
       intro w'
       go_simp
       with_reducible rfl
      rotate_left
      ·
       simp only [Act.put, List.setIfInBounds_toArray, List.set_cons_zero, List.set_cons_succ, i64_w, i32_w]
       rfl
      refine pure_ (i := 6) (N := some 18) (v := ?_) (a' := ?_) #[true, true, true, true, true, true, true, false, false, false, false, false, false, false, false, false, false] rfl rfl (any_of HT_.out (by kernel_rfl)) (fun _ _ _ h => h) (Or.inl ⟨by rfl, ?_⟩) ?_ ?_
      rotate_left
      ·
       intro w'
       go_simp
       with_reducible rfl
      rotate_left
      ·
       simp only [Act.put, List.setIfInBounds_toArray, List.set_cons_zero, List.set_cons_succ, i64_w, i32_w]
       rfl
      refine pure_ (i := 7) (N := some 19) (v := undef) (a' := ?_) #[true, true, true, true, true, true, true, true, false, false, false, false, false, false, false, false, false] rfl rfl (any_of HT_.out (by kernel_rfl)) (fun _ _ _ h => h) (Or.inr ⟨by rfl, rfl⟩) ?_ ?_
      rotate_left
      ·
       simp only [Act.put, List.setIfInBounds_toArray, List.set_cons_zero, List.set_cons_succ, i64_w, i32_w]
       rfl
      refine pure_ (i := 8) (N := some 20) (v := undef) (a' := ?_) #[true, true, true, true, true, true, true, true, true, false, false, false, false, false, false, false, false] rfl rfl (any_of HT_.out (by kernel_rfl)) (fun _ _ _ h => h) (Or.inr ⟨by rfl, rfl⟩) ?_ ?_
      rotate_left
      ·
       simp only [Act.put, List.setIfInBounds_toArray, List.set_cons_zero, List.set_cons_succ, i64_w, i32_w]
       rfl
      refine pure_ (i := 9) (N := some 21) (v := undef) (a' := ?_) #[true, true, true, true, true, true, true, true, true, true, false, false, false, false, false, false, false] rfl rfl (any_of HT_.out (by kernel_rfl)) (fun _ _ _ h => h) (Or.inr ⟨by rfl, rfl⟩) ?_ ?_
      rotate_left
      ·
       simp only [Act.put, List.setIfInBounds_toArray, List.set_cons_zero, List.set_cons_succ, i64_w, i32_w]
       rfl
      refine pure_ (i := 10) (N := some 22) (v := undef) (a' := ?_) #[true, true, true, true, true, true, true, true, true, true, true, false, false, false, false, false, false] rfl rfl (any_of HT_.out (by kernel_rfl)) (fun _ _ _ h => h) (Or.inr ⟨by rfl, rfl⟩) ?_ ?_
      rotate_left
      ·
       simp only [Act.put, List.setIfInBounds_toArray, List.set_cons_zero, List.set_cons_succ, i64_w, i32_w]
       rfl
      refine pure_ (i := 11) (N := some 23) (v := undef) (a' := ?_) #[true, true, true, true, true, true, true, true, true, true, true, true, false, false, false, false, false] rfl rfl (any_of HT_.out (by kernel_rfl)) (fun _ _ _ h => h) (Or.inr ⟨by rfl, rfl⟩) ?_ ?_
      rotate_left
      ·
       simp only [Act.put, List.setIfInBounds_toArray, List.set_cons_zero, List.set_cons_succ, i64_w, i32_w]
       rfl
      refine pure_ (i := 12) (N := some 24) (v := undef) (a' := ?_) #[true, true, true, true, true, true, true, true, true, true, true, true, true, false, false, false, false] rfl rfl (any_of HT_.out (by kernel_rfl)) (fun _ _ _ h => h) (Or.inr ⟨by rfl, rfl⟩) ?_ ?_
      rotate_left
      ·
       simp only [Act.put, List.setIfInBounds_toArray, List.set_cons_zero, List.set_cons_succ, i64_w, i32_w]
       rfl
      refine pure_ (i := 13) (N := some 25) (v := undef) (a' := ?_) #[true, true, true, true, true, true, true, true, true, true, true, true, true, true, false, false, false] rfl rfl (any_of HT_.out (by kernel_rfl)) (fun _ _ _ h => h) (Or.inr ⟨by rfl, rfl⟩) ?_ ?_
      rotate_left
      ·
       simp only [Act.put, List.setIfInBounds_toArray, List.set_cons_zero, List.set_cons_succ, i64_w, i32_w]
       rfl
      refine pure_ (i := 14) (N := some 26) (v := undef) (a' := ?_) #[true, true, true, true, true, true, true, true, true, true, true, true, true, true, true, false, false] rfl rfl (any_of HT_.out (by kernel_rfl)) (fun _ _ _ h => h) (Or.inr ⟨by rfl, rfl⟩) ?_ ?_
      rotate_left
      ·
       simp only [Act.put, List.setIfInBounds_toArray, List.set_cons_zero, List.set_cons_succ, i64_w, i32_w]
       rfl
      refine pure_ (i := 15) (N := some 27) (v := ?_) (a' := ?_) #[true, true, true, true, true, true, true, true, true, true, true, true, true, true, true, true, false] rfl rfl (any_of HT_.out (by kernel_rfl)) (fun _ _ _ h => h) (Or.inl ⟨by rfl, ?_⟩) ?_ ?_
      rotate_left
      ·
       intro w'
       go_simp
       with_reducible rfl
      rotate_left
      ·
       simp only [Act.put, List.setIfInBounds_toArray, List.set_cons_zero, List.set_cons_succ, i64_w, i32_w]
       rfl
      refine pure_ (i := 16) (N := some 28) (v := ?_) (a' := ?_) #[true, true, true, true, true, true, true, true, true, true, true, true, true, true, true, true, true] rfl rfl (any_of HT_.out (by kernel_rfl)) (fun _ _ _ h => h) (Or.inl ⟨by rfl, ?_⟩) ?_ ?_
      rotate_left
      ·
       intro w'
       go_simp
       with_reducible rfl
      rotate_left
      ·
       simp only [Act.put, List.setIfInBounds_toArray, List.set_cons_zero, List.set_cons_succ, i64_w, i32_w]
       rfl
      refine done_ (done_of HT_.out (by kernel_rfl)) ?_
      try go_wp2
      go_roundg (l0.length - (x + 1)).toNat
      case measure => have := HA.out; have := C3.out; omega
      case rel =>
       have h1 := HA.out
       have h2 := C3.out
       refine ⟨wrap64 (x + 1), (by first | rfl | (simp; done) | (simp [*]; done)), ⟨?_⟩, ⟨by repeat (first | (with_reducible first | exact HB.out | apply below_alloc | apply pw_below_drewN | apply below_drew1 | refine below_set ?_ GE.out) | exact HB.out)⟩⟩
       have hw : wrap64 (x + 1) = x + 1 := by
        have := HL.out
        unfold wrap64
        omega
       rw [hw]
       exact ⟨by omega, by omega, rfl, NX.out⟩
   ·
    have c3b0 : decide (x < (l0.length : Int)) = false := decide_eq_false c3
    have hq : q0 = true := by
     have h1 := HA.out
     have e1 : (l0.length - x).toNat = 0 := by omega
     have h2 := h1.2.2.2
     rw [e1] at h2
     exact h2.symm
    have HQ2 : Aside0 (r = if (l0.length : Int) > 120 then false else !(l0.any (impl_LotsOk.over l0))) := ⟨by
     have h1 := HQ.out
     rw [hq, if_pos rfl] at h1
     exact h1⟩
    clear HQ hq c3
    have hcb := (HB.out.cell (World.block_lt_of_cell? w1 _ HX.out)).trans HX.out
    by_cases c4 : (l0.length : Int) > 120
    ·
     have c4b0 : decide (120 < (l0.length : Int)) = true := decide_eq_true c4
     have c4b1 : decide (120 < l0.length) = true := decide_eq_true (by omega)
     obtain rfl : r = false := by
      have h1 := HQ2.out
      rw [if_pos c4] at h1
      exact h1
     clear c4 HQ2
     go_wp2
     go_ret
     exact ⟨by first | rfl | (simp; done) | (simp [*]; done), below_step HW.out (by repeat (first | (with_reducible first | exact HB.out | apply below_alloc | apply pw_below_drewN | apply below_drew1) | exact HB.out))⟩
    ·
     have c4b0 : decide (120 < (l0.length : Int)) = false := decide_eq_false c4
     have c4b1 : decide (120 < l0.length) = false := decide_eq_false (by omega)
     obtain rfl : r = !(l0.any (impl_LotsOk.over l0)) := by
      have h1 := HQ2.out
      rw [if_neg c4] at h1
      exact h1
     clear c4 HQ2
     go_wp2_with (first | (go_at_call 95; refine (ContainsFunc_st96.calls A0 c0 l0 96 #[.pointer (some ⟨w.heap.size, 0, none⟩)] (impl_LotsOk.over l0) _ (Kd.C_below HR1.out HB.out) HC0.out (impl_LotsOk.pred ((HB.out.cell (World.block_lt_of_cell? w1 _ HX.out)).trans HX.out) (Kd.C_below HR1.out HB.out) HC0.out HL.out)).mono ?_; rintro e w9 ⟨rfl, hb⟩; have n0_ := Aside0.mk (below_step HB.out hb); clear HB; have HB := n0_; clear n0_ hb))
     go_ret
     exact ⟨by first | rfl | (simp; done) | (simp [*]; done), below_step HW.out (by repeat (first | (with_reducible first | exact HB.out | apply below_alloc | apply pw_below_drewN | apply below_drew1) | exact HB.out))⟩
 ·
  rw [if_neg hl] at h
  cases h
end Go.Proofs.Ytmfgajbkcnlkcaa.P
namespace Go.Proofs.Ytmfgajbkcnlkcaa.P
open Go.RowKit Go.Proofs.YtmfgajbkcnlkcaaW.PrintWords Go.Proofs.YtmfgajbkcnlkcaaW.PrintLast Go.Proofs.YtmfgajbkcnlkcaaW.PrintMore
attribute [local go_sem] max2_int min2_int max_two min_two max_three min_three max_four min_four   -- for this text's walks alone
set_option linter.unusedVariables false
set_option linter.unusedSimpArgs false
def impl_accountKind.l0 : Nat → Int → List (S88) → Int → Int → Option (Int)
 | 0, _, _, _, _ => none
 | k + 1, x1, x7, x8, x9 => if x9 < x8 then (if 0 ≤ x9 then (if x9 < (x7.length : Int) then (if ((rd_T88 x7 x9).f0) = x1 then (some ((rd_T88 x7 x9).f1)) else (impl_accountKind.l0 k x1 x7 x8 (wrap64 (x9 + 1)))) else (none)) else (none)) else (some 0)
def impl_accountKind.f (k : Nat) (l0 : List (S88)) (a1 : Int) : Option (Int) := impl_accountKind.l0 k a1 l0 (l0.length : Int) 0
theorem impl_accountKind.calls (k : Nat) (A0 : Option Addr) (c0 : Nat) (l0 : List (S88)) (a1 : Int) (r : Int) (w : World) (hr0 : Kd.C k88 w A0 l0.length l0) (hc0 : l0.length ≤ c0) (h : impl_accountKind.f k l0 a1 = some r) :
 Calls Try.prog 99 #[.slice A0 l0.length c0, .int .i64 a1] w fun e w' => e = .returned (.int .i64 r) ∧ Below w.heap.size w w' := by
 have hu88 := Try.underlying88
 have HR0 := Aside0.mk hr0
 have HC0 := Aside0.mk hc0
 clear hr0 hc0
 have HB := Aside0.mk (Below.refl w.heap.size w)
 have H : (impl_accountKind.l0 k a1 l0 (l0.length : Int) 0) = some r := h
 clear h
 have H' := Aside0.mk H
 clear H
 go_enter Try.func99, Try.ntmps99
 go_wp2
 go_loopg [9] k (fun kq v9 w' => ∃ (x9_1 : Int), v9 = .int .i64 x9_1 ∧ Aside0 (impl_accountKind.l0 kq a1 l0 (l0.length : Int) x9_1 = some r) ∧ Aside0 (kq ≤ k) ∧ Aside0 (Below w.heap.size w w'))
 case atStart => exact ⟨(0), (by first | rfl | (simp; done) | (simp [*]; done)), H', ⟨Nat.le_refl _⟩, ⟨by repeat (first | (with_reducible first | exact HB.out | apply below_alloc | apply pw_below_drewN | apply below_drew1) | exact HB.out)⟩⟩
 case round =>
  clear H'
  try clear p2
  obtain ⟨x9_1, rfl, HA, HK1, HB⟩ := hrel
  cases gk with
  | zero => exact absurd HA.out (by simp [impl_accountKind.l0])
  | succ k1 =>
   have H := HA.out
   clear HA
   simp only [impl_accountKind.l0] at H
   by_cases c3 : x9_1 < (l0.length : Int)
   ·
    rw [if_pos c3] at H
    have c3b0 : decide (x9_1 < (l0.length : Int)) = true := decide_eq_true c3
    clear c3
    by_cases c4 : 0 ≤ x9_1
    ·
     rw [if_pos c4] at H
     have c4b0 : decide (0 ≤ x9_1) = true := decide_eq_true c4
     clear c4
     by_cases c5 : x9_1 < (l0.length : Int)
     ·
      rw [if_pos c5] at H
      have c5b0 : decide (x9_1 < (l0.length : Int)) = true := decide_eq_true c5
      clear c5
      by_cases c6 : ((rd_T88 l0 x9_1).f0) = a1
      ·
       rw [if_pos c6] at H
       have c6b0 : (((rd_T88 l0 x9_1).f0) == a1) = true := beq_iff_eq.mpr c6
       have c6b1 : (((rd_T88 l0 x9_1).f0) != a1) = false := bne_eq_false_iff_eq.mpr c6
       clear c6
       obtain rfl := Option.some.inj H
       have p407 : 0 ≤ (x9_1 : Int) := of_decide_eq_true (by first | (with_reducible assumption) | assumption)
       have q407 : x9_1 < (l0.length : Int) := of_decide_eq_true (by first | (with_reducible assumption) | assumption)
       obtain ⟨ad407, e407, hx407_0, hx407_1⟩ := at_T88 HR0.out x9_1 p407 q407
       cases e407
       replace hx407_0 := (HB.out.cell (World.block_lt_of_cell? w _ hx407_0)).trans hx407_0
       replace hx407_1 := (HB.out.cell (World.block_lt_of_cell? w _ hx407_1)).trans hx407_1
       replace p407 := eq_true p407
       replace q407 := eq_true q407
       go_wp2_with (first | ((with_reducible refine gate_dst (N := 6) rfl ?_); refine box_event ?hg (N := 6) ?hd (cs := #[.int .i64 0, .int .i64 0]) (t := 88) ?hr ?_; (case hd => rfl); (case hg => rfl); (case hr => first | (go_simp; done) | (go_simp; rfl)); intro gb408 hg w7 hbox hb; have n0_ := Aside0.mk (below_step (by repeat (first | (with_reducible first | exact HB.out | apply below_alloc | apply pw_below_drewN | apply below_drew1) | exact HB.out)) hb); have n1_ := Aside0.mk (hbox); have n2_ := Aside0.mk ((by rw [hg]; exact (below_size (by repeat (first | (with_reducible first | exact HB.out | apply below_alloc | apply pw_below_drewN | apply below_drew1) | exact HB.out))) : w.heap.size ≤ gb408)); have n3_ := Aside0.mk ((by rw [hg]; exact (below_size (by repeat (first | (with_reducible first | exact HB.out | apply below_alloc | apply pw_below_drewN | apply below_drew1) | exact HB.out))) : w.heap.size ≤ gb408)); clear HB; have HB := n0_; have BK408 := n1_; have GW408 := n2_; have GE408 := n3_; clear n0_ n1_ n2_ n3_; clear hb hbox hg; have hcz8_0 : w7.cell? ⟨gb408, 0, none⟩ = some (.int .i64 0) := (blk_cell BK408.out 0).trans rfl; have hcz8_1 : w7.cell? ⟨gb408, 1, none⟩ = some (.int .i64 0) := (blk_cell BK408.out 1).trans rfl; have hfz8_0 := blk_frozen BK408.out 0; have hfz8_1 := blk_frozen BK408.out 1))
       go_ret
       exact ⟨by first | rfl | (simp [errW_none, errW_some] <;> rfl) | (simp [*, errW_none, errW_some] <;> rfl), by repeat (first | (with_reducible first | exact HB.out | apply below_alloc | apply pw_below_drewN | apply below_drew1 | refine below_set ?_ GE408.out) | exact HB.out)⟩
      ·
       rw [if_neg c6] at H
       have c6b0 : (((rd_T88 l0 x9_1).f0) == a1) = false := beq_eq_false_iff_ne.mpr c6
       have c6b1 : (((rd_T88 l0 x9_1).f0) != a1) = true := bne_iff_ne.mpr c6
       have H' := Aside0.mk H
       clear H
       have p407 : 0 ≤ (x9_1 : Int) := of_decide_eq_true (by first | (with_reducible assumption) | assumption)
       have q407 : x9_1 < (l0.length : Int) := of_decide_eq_true (by first | (with_reducible assumption) | assumption)
       obtain ⟨ad407, e407, hx407_0, hx407_1⟩ := at_T88 HR0.out x9_1 p407 q407
       cases e407
       replace hx407_0 := (HB.out.cell (World.block_lt_of_cell? w _ hx407_0)).trans hx407_0
       replace hx407_1 := (HB.out.cell (World.block_lt_of_cell? w _ hx407_1)).trans hx407_1
       replace p407 := eq_true p407
       replace q407 := eq_true q407
       go_wp2_with (first | ((with_reducible refine gate_dst (N := 6) rfl ?_); refine box_event ?hg (N := 6) ?hd (cs := #[.int .i64 0, .int .i64 0]) (t := 88) ?hr ?_; (case hd => rfl); (case hg => rfl); (case hr => first | (go_simp; done) | (go_simp; rfl)); intro gb408 hg w9 hbox hb; have n0_ := Aside0.mk (below_step (by repeat (first | (with_reducible first | exact HB.out | apply below_alloc | apply pw_below_drewN | apply below_drew1) | exact HB.out)) hb); have n1_ := Aside0.mk (hbox); have n2_ := Aside0.mk ((by rw [hg]; exact (below_size (by repeat (first | (with_reducible first | exact HB.out | apply below_alloc | apply pw_below_drewN | apply below_drew1) | exact HB.out))) : w.heap.size ≤ gb408)); have n3_ := Aside0.mk ((by rw [hg]; exact (below_size (by repeat (first | (with_reducible first | exact HB.out | apply below_alloc | apply pw_below_drewN | apply below_drew1) | exact HB.out))) : w.heap.size ≤ gb408)); clear HB; have HB := n0_; have BK408 := n1_; have GW408 := n2_; have GE408 := n3_; clear n0_ n1_ n2_ n3_; clear hb hbox hg; have hcz10_0 : w9.cell? ⟨gb408, 0, none⟩ = some (.int .i64 0) := (blk_cell BK408.out 0).trans rfl; have hcz10_1 : w9.cell? ⟨gb408, 1, none⟩ = some (.int .i64 0) := (blk_cell BK408.out 1).trans rfl; have hfz10_0 := blk_frozen BK408.out 0; have hfz10_1 := blk_frozen BK408.out 1))
       go_roundg k1
       case measure => have := HK1.out; omega
       case rel => exact ⟨(wrap64 (x9_1 + 1)), (by first | rfl | (simp; done) | (simp [*]; done)), H', ⟨by have := HK1.out; omega⟩, ⟨by repeat (first | (with_reducible first | exact HB.out | apply below_alloc | apply pw_below_drewN | apply below_drew1 | refine below_set ?_ GE408.out) | exact HB.out)⟩⟩
     ·
      rw [if_neg c5] at H
      exact absurd H (by simp)
    ·
     rw [if_neg c4] at H
     exact absurd H (by simp)
   ·
    rw [if_neg c3] at H
    have c3b0 : decide (x9_1 < (l0.length : Int)) = false := decide_eq_false c3
    clear c3
    obtain rfl := Option.some.inj H
    go_wp2
    go_ret
    exact ⟨by first | rfl | (simp [errW_none, errW_some] <;> rfl) | (simp [*, errW_none, errW_some] <;> rfl), by repeat (first | (with_reducible first | exact HB.out | apply below_alloc | apply pw_below_drewN | apply below_drew1) | exact HB.out)⟩
def impl_instrKind.l0 : Nat → Int → List (S90) → Int → Int → Option (Int)
 | 0, _, _, _, _ => none
 | k + 1, x1, x7, x8, x9 => if x9 < x8 then (if 0 ≤ x9 then (if x9 < (x7.length : Int) then (if ((rd_T90 x7 x9).f0) = x1 then (some ((rd_T90 x7 x9).f1)) else (impl_instrKind.l0 k x1 x7 x8 (wrap64 (x9 + 1)))) else (none)) else (none)) else (some 0)
def impl_instrKind.f (k : Nat) (l0 : List (S90)) (a1 : Int) : Option (Int) := impl_instrKind.l0 k a1 l0 (l0.length : Int) 0
theorem impl_instrKind.calls (k : Nat) (A0 : Option Addr) (c0 : Nat) (l0 : List (S90)) (a1 : Int) (r : Int) (w : World) (hr0 : Kd.C k90 w A0 l0.length l0) (hc0 : l0.length ≤ c0) (h : impl_instrKind.f k l0 a1 = some r) :
 Calls Try.prog 100 #[.slice A0 l0.length c0, .int .i64 a1] w fun e w' => e = .returned (.int .i64 r) ∧ Below w.heap.size w w' := by
 have hu90 := Try.underlying90
 have HR0 := Aside0.mk hr0
 have HC0 := Aside0.mk hc0
 clear hr0 hc0
 have HB := Aside0.mk (Below.refl w.heap.size w)
 have H : (impl_instrKind.l0 k a1 l0 (l0.length : Int) 0) = some r := h
 clear h
 have H' := Aside0.mk H
 clear H
 go_enter Try.func100, Try.ntmps100
 go_wp2
 go_loopg [9] k (fun kq v9 w' => ∃ (x9_1 : Int), v9 = .int .i64 x9_1 ∧ Aside0 (impl_instrKind.l0 kq a1 l0 (l0.length : Int) x9_1 = some r) ∧ Aside0 (kq ≤ k) ∧ Aside0 (Below w.heap.size w w'))
 case atStart => exact ⟨(0), (by first | rfl | (simp; done) | (simp [*]; done)), H', ⟨Nat.le_refl _⟩, ⟨by repeat (first | (with_reducible first | exact HB.out | apply below_alloc | apply pw_below_drewN | apply below_drew1) | exact HB.out)⟩⟩
 case round =>
  clear H'
  try clear c1
  try clear p2
  obtain ⟨x9_1, rfl, HA, HK1, HB⟩ := hrel
  cases gk with
  | zero => exact absurd HA.out (by simp [impl_instrKind.l0])
  | succ k1 =>
   have H := HA.out
   clear HA
   simp only [impl_instrKind.l0] at H
   by_cases c3 : x9_1 < (l0.length : Int)
   ·
    rw [if_pos c3] at H
    have c3b0 : decide (x9_1 < (l0.length : Int)) = true := decide_eq_true c3
    clear c3
    by_cases c4 : 0 ≤ x9_1
    ·
     rw [if_pos c4] at H
     have c4b0 : decide (0 ≤ x9_1) = true := decide_eq_true c4
     clear c4
     by_cases c5 : x9_1 < (l0.length : Int)
     ·
      rw [if_pos c5] at H
      have c5b0 : decide (x9_1 < (l0.length : Int)) = true := decide_eq_true c5
      clear c5
      by_cases c6 : ((rd_T90 l0 x9_1).f0) = a1
      ·
       rw [if_pos c6] at H
       have c6b0 : (((rd_T90 l0 x9_1).f0) == a1) = true := beq_iff_eq.mpr c6
       have c6b1 : (((rd_T90 l0 x9_1).f0) != a1) = false := bne_eq_false_iff_eq.mpr c6
       clear c6
       obtain rfl := Option.some.inj H
       have p409 : 0 ≤ (x9_1 : Int) := of_decide_eq_true (by first | (with_reducible assumption) | assumption)
       have q409 : x9_1 < (l0.length : Int) := of_decide_eq_true (by first | (with_reducible assumption) | assumption)
       obtain ⟨ad409, e409, hx409_0, hx409_1⟩ := at_T90 HR0.out x9_1 p409 q409
       cases e409
       replace hx409_0 := (HB.out.cell (World.block_lt_of_cell? w _ hx409_0)).trans hx409_0
       replace hx409_1 := (HB.out.cell (World.block_lt_of_cell? w _ hx409_1)).trans hx409_1
       replace p409 := eq_true p409
       replace q409 := eq_true q409
       go_wp2_with (first | ((with_reducible refine gate_dst (N := 6) rfl ?_); refine box_event ?hg (N := 6) ?hd (cs := #[.int .i64 0, .int .i64 0]) (t := 90) ?hr ?_; (case hd => rfl); (case hg => rfl); (case hr => first | (go_simp; done) | (go_simp; rfl)); intro gb410 hg w7 hbox hb; have n0_ := Aside0.mk (below_step (by repeat (first | (with_reducible first | exact HB.out | apply below_alloc | apply pw_below_drewN | apply below_drew1) | exact HB.out)) hb); have n1_ := Aside0.mk (hbox); have n2_ := Aside0.mk ((by rw [hg]; exact (below_size (by repeat (first | (with_reducible first | exact HB.out | apply below_alloc | apply pw_below_drewN | apply below_drew1) | exact HB.out))) : w.heap.size ≤ gb410)); have n3_ := Aside0.mk ((by rw [hg]; exact (below_size (by repeat (first | (with_reducible first | exact HB.out | apply below_alloc | apply pw_below_drewN | apply below_drew1) | exact HB.out))) : w.heap.size ≤ gb410)); clear HB; have HB := n0_; have BK410 := n1_; have GW410 := n2_; have GE410 := n3_; clear n0_ n1_ n2_ n3_; clear hb hbox hg; have hcz8_0 : w7.cell? ⟨gb410, 0, none⟩ = some (.int .i64 0) := (blk_cell BK410.out 0).trans rfl; have hcz8_1 : w7.cell? ⟨gb410, 1, none⟩ = some (.int .i64 0) := (blk_cell BK410.out 1).trans rfl; have hfz8_0 := blk_frozen BK410.out 0; have hfz8_1 := blk_frozen BK410.out 1))
       go_ret
       exact ⟨by first | rfl | (simp [errW_none, errW_some] <;> rfl) | (simp [*, errW_none, errW_some] <;> rfl), by repeat (first | (with_reducible first | exact HB.out | apply below_alloc | apply pw_below_drewN | apply below_drew1 | refine below_set ?_ GE410.out) | exact HB.out)⟩
      ·
       rw [if_neg c6] at H
       have c6b0 : (((rd_T90 l0 x9_1).f0) == a1) = false := beq_eq_false_iff_ne.mpr c6
       have c6b1 : (((rd_T90 l0 x9_1).f0) != a1) = true := bne_iff_ne.mpr c6
       have H' := Aside0.mk H
       clear H
       have p409 : 0 ≤ (x9_1 : Int) := of_decide_eq_true (by first | (with_reducible assumption) | assumption)
       have q409 : x9_1 < (l0.length : Int) := of_decide_eq_true (by first | (with_reducible assumption) | assumption)
       obtain ⟨ad409, e409, hx409_0, hx409_1⟩ := at_T90 HR0.out x9_1 p409 q409
       cases e409
       replace hx409_0 := (HB.out.cell (World.block_lt_of_cell? w _ hx409_0)).trans hx409_0
       replace hx409_1 := (HB.out.cell (World.block_lt_of_cell? w _ hx409_1)).trans hx409_1
       replace p409 := eq_true p409
       replace q409 := eq_true q409
       go_wp2_with (first | ((with_reducible refine gate_dst (N := 6) rfl ?_); refine box_event ?hg (N := 6) ?hd (cs := #[.int .i64 0, .int .i64 0]) (t := 90) ?hr ?_; (case hd => rfl); (case hg => rfl); (case hr => first | (go_simp; done) | (go_simp; rfl)); intro gb410 hg w9 hbox hb; have n0_ := Aside0.mk (below_step (by repeat (first | (with_reducible first | exact HB.out | apply below_alloc | apply pw_below_drewN | apply below_drew1) | exact HB.out)) hb); have n1_ := Aside0.mk (hbox); have n2_ := Aside0.mk ((by rw [hg]; exact (below_size (by repeat (first | (with_reducible first | exact HB.out | apply below_alloc | apply pw_below_drewN | apply below_drew1) | exact HB.out))) : w.heap.size ≤ gb410)); have n3_ := Aside0.mk ((by rw [hg]; exact (below_size (by repeat (first | (with_reducible first | exact HB.out | apply below_alloc | apply pw_below_drewN | apply below_drew1) | exact HB.out))) : w.heap.size ≤ gb410)); clear HB; have HB := n0_; have BK410 := n1_; have GW410 := n2_; have GE410 := n3_; clear n0_ n1_ n2_ n3_; clear hb hbox hg; have hcz10_0 : w9.cell? ⟨gb410, 0, none⟩ = some (.int .i64 0) := (blk_cell BK410.out 0).trans rfl; have hcz10_1 : w9.cell? ⟨gb410, 1, none⟩ = some (.int .i64 0) := (blk_cell BK410.out 1).trans rfl; have hfz10_0 := blk_frozen BK410.out 0; have hfz10_1 := blk_frozen BK410.out 1))
       go_roundg k1
       case measure => have := HK1.out; omega
       case rel => exact ⟨(wrap64 (x9_1 + 1)), (by first | rfl | (simp; done) | (simp [*]; done)), H', ⟨by have := HK1.out; omega⟩, ⟨by repeat (first | (with_reducible first | exact HB.out | apply below_alloc | apply pw_below_drewN | apply below_drew1 | refine below_set ?_ GE410.out) | exact HB.out)⟩⟩
     ·
      rw [if_neg c5] at H
      exact absurd H (by simp)
    ·
     rw [if_neg c4] at H
     exact absurd H (by simp)
   ·
    rw [if_neg c3] at H
    have c3b0 : decide (x9_1 < (l0.length : Int)) = false := decide_eq_false c3
    clear c3
    obtain rfl := Option.some.inj H
    go_wp2
    go_ret
    exact ⟨by first | rfl | (simp [errW_none, errW_some] <;> rfl) | (simp [*, errW_none, errW_some] <;> rfl), by repeat (first | (with_reducible first | exact HB.out | apply below_alloc | apply pw_below_drewN | apply below_drew1) | exact HB.out)⟩
def impl_balsSum.l0 : Nat → Int → Int → List (S93) → Int → Int → Option (Int)
 | 0, _, _, _, _, _ => none
 | k + 1, x1, x5, x8, x9, x10 => if x10 < x9 then (if 0 ≤ x10 then (if x10 < (x8.length : Int) then (if ((rd_T93 x8 x10).f1) = x1 then (impl_balsSum.l0 k x1 (wrap64 (x5 + ((rd_T93 x8 x10).f2))) x8 x9 (wrap64 (x10 + 1))) else (impl_balsSum.l0 k x1 x5 x8 x9 (wrap64 (x10 + 1)))) else (none)) else (none)) else (some x5)
def impl_balsSum.f (k : Nat) (l0 : List (S93)) (a1 : Int) : Option (Int) := impl_balsSum.l0 k a1 0 l0 (l0.length : Int) 0
def impl_balsRight.l0 : Nat → List (S93) → Int → Int → List (S88) → List (S90) → List (S93) → List (S96) → List (S50) → Int → Option (Bool)
 | 0, _, _, _, _, _, _, _, _, _ => none
 | k + 1, x7, x8, x9, x414000, x414001, x414002, x414003, x414004, x414005 => if x9 < x8 then (if 0 ≤ x9 then (if x9 < (x7.length : Int) then ((impl_accountKind.f k x414000 ((rd_T93 x7 x9).f0)).bind fun t416 => (if t416 = 0 then (some false) else ((impl_instrKind.f k x414001 ((rd_T93 x7 x9).f1)).bind fun t417 => (if t417 = 0 then (some false) else (if t416 = 1 then (if ((rd_T93 x7 x9).f2) < 0 then (some false) else ((impl_balsSum.f k x414002 ((rd_T93 x7 x9).f1)).bind fun t418 => (if t418 = 0 then (impl_balsRight.l0 k x7 x8 (wrap64 (x9 + 1)) x414000 x414001 x414002 x414003 x414004 x414005) else (some false)))) else ((impl_balsSum.f k x414002 ((rd_T93 x7 x9).f1)).bind fun t419 => (if t419 = 0 then (impl_balsRight.l0 k x7 x8 (wrap64 (x9 + 1)) x414000 x414001 x414002 x414003 x414004 x414005) else (some false)))))))) else (none)) else (none)) else (some true)
def impl_balsRight.f (k : Nat) (l0_0 : List (S88)) (l0_1 : List (S90)) (l0_2 : List (S93)) (l0_3 : List (S96)) (l0_4 : List (S50)) (a0_5 : Int) : Option (Bool) := impl_balsRight.l0 k l0_2 (l0_2.length : Int) 0 l0_0 l0_1 l0_2 l0_3 l0_4 a0_5
def impl_balAt.l0 : Nat → List (S93) → Int → Int → List (S93) → Int → Int → Option (Int × Bool)
 | 0, _, _, _, _, _, _ => none
 | k + 1, x0, x1, x2, x11, x12, x13 => if x13 < x12 then (if 0 ≤ x13 then (if x13 < (x11.length : Int) then ((impl_byBoth.f k ((rd_T93 x11 x13).f0) ((rd_T93 x11 x13).f1) x1 x2).bind fun t422 => (if t422 ≥ 0 then (some (x13, (t422 == 0))) else (impl_balAt.l0 k x0 x1 x2 x11 x12 (wrap64 (x13 + 1))))) else (none)) else (none)) else (some ((x0.length : Int), false))
def impl_balAt.f (k : Nat) (l0 : List (S93)) (a1 : Int) (a2 : Int) : Option (Int × Bool) := impl_balAt.l0 k l0 a1 a2 l0 (l0.length : Int) 0
def impl_balOf.f (k : Nat) (l0 : List (S93)) (a1 : Int) (a2 : Int) : Option (Int) := (impl_balAt.f k l0 a1 a2).bind fun bt423 => (if bt423.2 = true then (if 0 ≤ bt423.1 then (if bt423.1 < (l0.length : Int) then (some ((rd_T93 l0 bt423.1).f2)) else (none)) else (none)) else (some 0))
end Go.Proofs.Ytmfgajbkcnlkcaa.P
namespace Go.Proofs.Ytmfgajbkcnlkcaa.P
open Go.RowKit Go.Proofs.YtmfgajbkcnlkcaaW.PrintWords Go.Proofs.YtmfgajbkcnlkcaaW.PrintLast Go.Proofs.YtmfgajbkcnlkcaaW.PrintMore
attribute [local go_sem] max2_int min2_int max_two min_two max_three min_three max_four min_four   -- for this text's walks alone
set_option linter.unusedVariables false
set_option linter.unusedSimpArgs false
mutual
def impl_lotsRight.l0 : Nat → List (S96) → Int → Int → List (S88) → List (S90) → List (S93) → List (S96) → List (S50) → Int → Option (Bool)
 | 0, _, _, _, _, _, _, _, _, _ => none
 | k + 1, x12, x13, x14, x427000, x427001, x427002, x427003, x427004, x427005 => if x14 < x13 then (if 0 ≤ x14 then (if x14 < (x12.length : Int) then ((impl_accountKind.f k x427000 ((rd_T96 x12 x14).f0)).bind fun t429 => (if t429 = 1 then ((impl_instrKind.f k x427001 ((rd_T96 x12 x14).f1)).bind fun t430 => (if t430 = 2 then (if ((rd_T96 x12 x14).f2) > x427005 then (some false) else (impl_lotsRight.l0 k x12 x13 (wrap64 (x14 + 1)) x427000 x427001 x427002 x427003 x427004 x427005)) else (some false))) else (some false))) else (none)) else (none)) else (impl_lotsRight.l1 k x427000 (x427000.length : Int) 0 x427000 x427001 x427002 x427003 x427004 x427005)
def impl_lotsRight.l1 : Nat → List (S88) → Int → Int → List (S88) → List (S90) → List (S93) → List (S96) → List (S50) → Int → Option (Bool)
 | 0, _, _, _, _, _, _, _, _, _ => none
 | k + 1, x41, x42, x43, x427000, x427001, x427002, x427003, x427004, x427005 => if x43 < x42 then (if 0 ≤ x43 then (if x43 < (x41.length : Int) then (impl_lotsRight.l2 k x41 x42 x43 x427001 (x427001.length : Int) 0 x427000 x427001 x427002 x427003 x427004 x427005 ((rd_T88 x41 x43).f0) ((rd_T88 x41 x43).f1)) else (none)) else (none)) else (some true)
def impl_lotsRight.l2 : Nat → List (S88) → Int → Int → List (S90) → Int → Int → List (S88) → List (S90) → List (S93) → List (S96) → List (S50) → Int → Int → Int → Option (Bool)
 | 0, _, _, _, _, _, _, _, _, _, _, _, _, _, _ => none
 | k + 1, x41, x42, x43, x48, x49, x50, x427000, x427001, x427002, x427003, x427004, x427005, x433000, x433001 => if x50 < x49 then (if 0 ≤ x50 then (if x50 < (x48.length : Int) then (if x433001 = 1 then (impl_lotsRight.j3 k x41 x42 x43 x48 x49 x50 (((rd_T90 x48 x50).f1) != 2) x427000 x427001 x427002 x427003 x427004 x427005 x433000 x433001 ((rd_T90 x48 x50).f0) ((rd_T90 x48 x50).f1)) else (impl_lotsRight.j3 k x41 x42 x43 x48 x49 x50 true x427000 x427001 x427002 x427003 x427004 x427005 x433000 x433001 ((rd_T90 x48 x50).f0) ((rd_T90 x48 x50).f1))) else (none)) else (none)) else (impl_lotsRight.l1 k x41 x42 (wrap64 (x43 + 1)) x427000 x427001 x427002 x427003 x427004 x427005)
def impl_lotsRight.j3 : Nat → List (S88) → Int → Int → List (S90) → Int → Int → Bool → List (S88) → List (S90) → List (S93) → List (S96) → List (S50) → Int → Int → Int → Int → Int → Option (Bool)
 | 0, _, _, _, _, _, _, _, _, _, _, _, _, _, _, _, _, _ => none
 | k + 1, x41, x42, x43, x48, x49, x50, x61, x427000, x427001, x427002, x427003, x427004, x427005, x433000, x433001, x435000, x435001 => if x61 = true then (impl_lotsRight.l2 k x41 x42 x43 x48 x49 (wrap64 (x50 + 1)) x427000 x427001 x427002 x427003 x427004 x427005 x433000 x433001) else ((impl_lotsOf.f x427003 x433000 x435000).bind fun t435 => ((impl_sumLots.f k t435).bind fun bt438 => ((impl_balOf.f k x427002 x433000 x435000).bind fun t440 => (if bt438.1 = t440 then (impl_lotsRight.l2 k x41 x42 x43 x48 x49 (wrap64 (x50 + 1)) x427000 x427001 x427002 x427003 x427004 x427005 x433000 x433001) else (some false)))))
end
def impl_lotsRight.f (k : Nat) (l0_0 : List (S88)) (l0_1 : List (S90)) (l0_2 : List (S93)) (l0_3 : List (S96)) (l0_4 : List (S50)) (a0_5 : Int) : Option (Bool) := impl_lotsRight.l0 k l0_3 (l0_3.length : Int) 0 l0_0 l0_1 l0_2 l0_3 l0_4 a0_5
end Go.Proofs.Ytmfgajbkcnlkcaa.P
