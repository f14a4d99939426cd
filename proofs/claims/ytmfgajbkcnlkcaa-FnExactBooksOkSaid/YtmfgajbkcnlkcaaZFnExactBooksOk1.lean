/- What the law FnExactBooksOk leans on, cut out of this repo's own texts by a program of this repo: plain functions, the walks that tie the Go calls to them, the law over lists and numbers, and the row. -/
import Derived.Test.YtmfgajbkcnlkcaaZFnExactBooksOk0
import Derived.Test.YtmfgajbkcnlkcaaProg
import Derived.Below
import Derived.Deep.Draws
import Derived.Deep.AppendLies
import Derived.Maps.AppendAt
import Derived.OwnWalk
import Derived.Laws.BytesArg
import Derived.Laws.MakeOwn
import Derived.Laws.OwnMore
import Derived.Deep.OwnRows
import Derived.Tactics
import Derived.Lib.ConvBytes
import Derived.Laws.Slices
import Derived.WalkKit
import Derived.KernelRfl
import Derived.RowKit3
import Derived.Deep.LoopGhost
import Derived.Deep.QuietTactic
import Derived.BigQuiet
import Derived.WideLaws
import Derived.Deep.DeepCutAuto
import Derived.Deep.CutBlock
import Derived.Deep.RegionHeld3
import Derived.Laws.Rows
import Derived.Lib.AppendStr
import Derived.ArgAppend
import Derived.Laws.IdiomCopy
import Derived.OrdersHeld
import Derived.Laws.BitsLemmas
import Derived.RowKit
import Derived.Lib.SliceRun
import Derived.Shelf.RegionOpenPlain
set_option maxHeartbeats 8000000
set_option maxRecDepth 100000
namespace Go.Proofs.Ytmfgajbkcnlkcaa.P
open Go.RowKit Go.Proofs.YtmfgajbkcnlkcaaW.PrintWords Go.Proofs.YtmfgajbkcnlkcaaW.PrintLast Go.Proofs.YtmfgajbkcnlkcaaW.PrintMore
attribute [local go_sem] max2_int min2_int max_two min_two max_three min_three max_four min_four   -- for this text's walks alone
set_option linter.unusedVariables false
set_option linter.unusedSimpArgs false
def errW : Option Int → Value
 | none => .nilIface
 | some c => .iface 0 (.int .i64 c)
theorem errW_none : errW none = .nilIface := rfl
theorem errW_some (c : Int) : errW (some c) = .iface 0 (.int .i64 c) := rfl
theorem info50 : (Try.prog.info? 50).map (fun i => (i.zero, i.size, i.bytes)) = some (some (.agg #[(.int .i64 0), (.int .i64 0), (.int .i64 0), (.int .i64 0), (.int .i64 0), (.int .i64 0), (.int .i64 0), (.int .i64 0)]), 8, 64) := by kernel_rfl
theorem info88 : (Try.prog.info? 88).map (fun i => (i.zero, i.size, i.bytes)) = some (some (.agg #[(.int .i64 0), (.int .i64 0)]), 2, 16) := by kernel_rfl
theorem info90 : (Try.prog.info? 90).map (fun i => (i.zero, i.size, i.bytes)) = some (some (.agg #[(.int .i64 0), (.int .i64 0)]), 2, 16) := by kernel_rfl
theorem info93 : (Try.prog.info? 93).map (fun i => (i.zero, i.size, i.bytes)) = some (some (.agg #[(.int .i64 0), (.int .i64 0), (.int .i64 0)]), 3, 24) := by kernel_rfl
theorem info96 : (Try.prog.info? 96).map (fun i => (i.zero, i.size, i.bytes)) = some (some (.agg #[(.int .i64 0), (.int .i64 0), (.int .i64 0), (.int .i64 0), (.int .i64 0)]), 5, 40) := by kernel_rfl
structure S50 where
 f0 : Int
 f1 : Int
 f2 : Int
 f3 : Int
 f4 : Int
 f5 : Int
 f6 : Int
 f7 : Int
def z50 : S50 := ⟨(0 : Int), (0 : Int), (0 : Int), (0 : Int), (0 : Int), (0 : Int), (0 : Int), (0 : Int)⟩
def k50 : Kd S50 := Kd.iso (Kd.pair (Kd.int .i64) (Kd.pair (Kd.int .i64) (Kd.pair (Kd.int .i64) (Kd.pair (Kd.int .i64) (Kd.pair (Kd.int .i64) (Kd.pair (Kd.int .i64) (Kd.pair (Kd.int .i64) (Kd.int .i64)))))))) (fun x : S50 => (x.f0, x.f1, x.f2, x.f3, x.f4, x.f5, x.f6, x.f7))
theorem k50_open {w : World} {x : S50} {cs : List Value} (h : k50.K w x cs) : cs = [.int .i64 x.f0, .int .i64 x.f1, .int .i64 x.f2, .int .i64 x.f3, .int .i64 x.f4, .int .i64 x.f5, .int .i64 x.f6, .int .i64 x.f7] := by
 obtain ⟨_, _, rfl, rfl, ⟨_, _, rfl, rfl, ⟨_, _, rfl, rfl, ⟨_, _, rfl, rfl, ⟨_, _, rfl, rfl, ⟨_, _, rfl, rfl, ⟨_, _, rfl, rfl, rfl⟩⟩⟩⟩⟩⟩⟩ := h; exact rfl
theorem k50_openM {w : World} {base : Nat} {ok : Nat → Prop} {x : S50} {cs : List Value} (h : k50.M w base ok x cs) : cs = [.int .i64 x.f0, .int .i64 x.f1, .int .i64 x.f2, .int .i64 x.f3, .int .i64 x.f4, .int .i64 x.f5, .int .i64 x.f6, .int .i64 x.f7] := by
 obtain ⟨_, _, rfl, rfl, ⟨_, _, rfl, rfl, ⟨_, _, rfl, rfl, ⟨_, _, rfl, rfl, ⟨_, _, rfl, rfl, ⟨_, _, rfl, rfl, ⟨_, _, rfl, rfl, rfl⟩⟩⟩⟩⟩⟩⟩ := h; exact rfl
theorem k50_mkM (w : World) (base : Nat) (ok : Nat → Prop) (x : S50)  : k50.M w base ok x [.int .i64 x.f0, .int .i64 x.f1, .int .i64 x.f2, .int .i64 x.f3, .int .i64 x.f4, .int .i64 x.f5, .int .i64 x.f6, .int .i64 x.f7] := ⟨[.int .i64 x.f0], [.int .i64 x.f1, .int .i64 x.f2, .int .i64 x.f3, .int .i64 x.f4, .int .i64 x.f5, .int .i64 x.f6, .int .i64 x.f7], rfl, rfl, ⟨[.int .i64 x.f1], [.int .i64 x.f2, .int .i64 x.f3, .int .i64 x.f4, .int .i64 x.f5, .int .i64 x.f6, .int .i64 x.f7], rfl, rfl, ⟨[.int .i64 x.f2], [.int .i64 x.f3, .int .i64 x.f4, .int .i64 x.f5, .int .i64 x.f6, .int .i64 x.f7], rfl, rfl, ⟨[.int .i64 x.f3], [.int .i64 x.f4, .int .i64 x.f5, .int .i64 x.f6, .int .i64 x.f7], rfl, rfl, ⟨[.int .i64 x.f4], [.int .i64 x.f5, .int .i64 x.f6, .int .i64 x.f7], rfl, rfl, ⟨[.int .i64 x.f5], [.int .i64 x.f6, .int .i64 x.f7], rfl, rfl, ⟨[.int .i64 x.f6], [.int .i64 x.f7], rfl, rfl, rfl⟩⟩⟩⟩⟩⟩⟩
def rd_T50 (xs : List S50) (i : Int) : S50 := xs.getD i.toNat z50
theorem at_T50 {w : World} {A : Option Addr} {n : Nat} {xs : List S50} (h : Kd.C k50 w A n xs) (i : Int) (h0 : 0 ≤ i) (h1 : i < n) : ∃ ad , A = some ad ∧ w.cell? (ad.add (i.toNat * 8)) = some (.int .i64 (rd_T50 xs i).f0) ∧ w.cell? ⟨(ad.add (i.toNat * 8)).block, (ad.add (i.toNat * 8)).off + 1, none⟩ = some (.int .i64 (rd_T50 xs i).f1) ∧ w.cell? ⟨(ad.add (i.toNat * 8)).block, (ad.add (i.toNat * 8)).off + 2, none⟩ = some (.int .i64 (rd_T50 xs i).f2) ∧ w.cell? ⟨(ad.add (i.toNat * 8)).block, (ad.add (i.toNat * 8)).off + 3, none⟩ = some (.int .i64 (rd_T50 xs i).f3) ∧ w.cell? ⟨(ad.add (i.toNat * 8)).block, (ad.add (i.toNat * 8)).off + 4, none⟩ = some (.int .i64 (rd_T50 xs i).f4) ∧ w.cell? ⟨(ad.add (i.toNat * 8)).block, (ad.add (i.toNat * 8)).off + 5, none⟩ = some (.int .i64 (rd_T50 xs i).f5) ∧ w.cell? ⟨(ad.add (i.toNat * 8)).block, (ad.add (i.toNat * 8)).off + 6, none⟩ = some (.int .i64 (rd_T50 xs i).f6) ∧ w.cell? ⟨(ad.add (i.toNat * 8)).block, (ad.add (i.toNat * 8)).off + 7, none⟩ = some (.int .i64 (rd_T50 xs i).f7) := by
 obtain ⟨ad, c, e, _, hK, hc0⟩ := Kd.C_get h z50 i h0 h1; have hc : ∀ j u, c[j]? = some u → w.cell? (ad.add (i.toNat * 8 + j)) = some u := hc0; obtain rfl := k50_open hK; exact ⟨ad, e, hc 0 _ rfl, by rw [← add_field _ _ 1 (by omega)]; exact hc 1 _ rfl, by rw [← add_field _ _ 2 (by omega)]; exact hc 2 _ rfl, by rw [← add_field _ _ 3 (by omega)]; exact hc 3 _ rfl, by rw [← add_field _ _ 4 (by omega)]; exact hc 4 _ rfl, by rw [← add_field _ _ 5 (by omega)]; exact hc 5 _ rfl, by rw [← add_field _ _ 6 (by omega)]; exact hc 6 _ rfl, by rw [← add_field _ _ 7 (by omega)]; exact hc 7 _ rfl⟩
structure S88 where
 f0 : Int
 f1 : Int
def z88 : S88 := ⟨(0 : Int), (0 : Int)⟩
def k88 : Kd S88 := Kd.iso (Kd.pair (Kd.int .i64) (Kd.int .i64)) (fun x : S88 => (x.f0, x.f1))
theorem k88_open {w : World} {x : S88} {cs : List Value} (h : k88.K w x cs) : cs = [.int .i64 x.f0, .int .i64 x.f1] := by
 obtain ⟨_, _, rfl, rfl, rfl⟩ := h; exact rfl
theorem k88_openM {w : World} {base : Nat} {ok : Nat → Prop} {x : S88} {cs : List Value} (h : k88.M w base ok x cs) : cs = [.int .i64 x.f0, .int .i64 x.f1] := by
 obtain ⟨_, _, rfl, rfl, rfl⟩ := h; exact rfl
theorem k88_mkM (w : World) (base : Nat) (ok : Nat → Prop) (x : S88)  : k88.M w base ok x [.int .i64 x.f0, .int .i64 x.f1] := ⟨[.int .i64 x.f0], [.int .i64 x.f1], rfl, rfl, rfl⟩
def rd_T88 (xs : List S88) (i : Int) : S88 := xs.getD i.toNat z88
theorem at_T88 {w : World} {A : Option Addr} {n : Nat} {xs : List S88} (h : Kd.C k88 w A n xs) (i : Int) (h0 : 0 ≤ i) (h1 : i < n) : ∃ ad , A = some ad ∧ w.cell? (ad.add (i.toNat * 2)) = some (.int .i64 (rd_T88 xs i).f0) ∧ w.cell? ⟨(ad.add (i.toNat * 2)).block, (ad.add (i.toNat * 2)).off + 1, none⟩ = some (.int .i64 (rd_T88 xs i).f1) := by
 obtain ⟨ad, c, e, _, hK, hc0⟩ := Kd.C_get h z88 i h0 h1; have hc : ∀ j u, c[j]? = some u → w.cell? (ad.add (i.toNat * 2 + j)) = some u := hc0; obtain rfl := k88_open hK; exact ⟨ad, e, hc 0 _ rfl, by rw [← add_field _ _ 1 (by omega)]; exact hc 1 _ rfl⟩
structure S90 where
 f0 : Int
 f1 : Int
def z90 : S90 := ⟨(0 : Int), (0 : Int)⟩
def k90 : Kd S90 := Kd.iso (Kd.pair (Kd.int .i64) (Kd.int .i64)) (fun x : S90 => (x.f0, x.f1))
theorem k90_open {w : World} {x : S90} {cs : List Value} (h : k90.K w x cs) : cs = [.int .i64 x.f0, .int .i64 x.f1] := by
 obtain ⟨_, _, rfl, rfl, rfl⟩ := h; exact rfl
theorem k90_openM {w : World} {base : Nat} {ok : Nat → Prop} {x : S90} {cs : List Value} (h : k90.M w base ok x cs) : cs = [.int .i64 x.f0, .int .i64 x.f1] := by
 obtain ⟨_, _, rfl, rfl, rfl⟩ := h; exact rfl
theorem k90_mkM (w : World) (base : Nat) (ok : Nat → Prop) (x : S90)  : k90.M w base ok x [.int .i64 x.f0, .int .i64 x.f1] := ⟨[.int .i64 x.f0], [.int .i64 x.f1], rfl, rfl, rfl⟩
def rd_T90 (xs : List S90) (i : Int) : S90 := xs.getD i.toNat z90
theorem at_T90 {w : World} {A : Option Addr} {n : Nat} {xs : List S90} (h : Kd.C k90 w A n xs) (i : Int) (h0 : 0 ≤ i) (h1 : i < n) : ∃ ad , A = some ad ∧ w.cell? (ad.add (i.toNat * 2)) = some (.int .i64 (rd_T90 xs i).f0) ∧ w.cell? ⟨(ad.add (i.toNat * 2)).block, (ad.add (i.toNat * 2)).off + 1, none⟩ = some (.int .i64 (rd_T90 xs i).f1) := by
 obtain ⟨ad, c, e, _, hK, hc0⟩ := Kd.C_get h z90 i h0 h1; have hc : ∀ j u, c[j]? = some u → w.cell? (ad.add (i.toNat * 2 + j)) = some u := hc0; obtain rfl := k90_open hK; exact ⟨ad, e, hc 0 _ rfl, by rw [← add_field _ _ 1 (by omega)]; exact hc 1 _ rfl⟩
structure S93 where
 f0 : Int
 f1 : Int
 f2 : Int
def z93 : S93 := ⟨(0 : Int), (0 : Int), (0 : Int)⟩
def k93 : Kd S93 := Kd.iso (Kd.pair (Kd.int .i64) (Kd.pair (Kd.int .i64) (Kd.int .i64))) (fun x : S93 => (x.f0, x.f1, x.f2))
theorem k93_open {w : World} {x : S93} {cs : List Value} (h : k93.K w x cs) : cs = [.int .i64 x.f0, .int .i64 x.f1, .int .i64 x.f2] := by
 obtain ⟨_, _, rfl, rfl, ⟨_, _, rfl, rfl, rfl⟩⟩ := h; exact rfl
theorem k93_openM {w : World} {base : Nat} {ok : Nat → Prop} {x : S93} {cs : List Value} (h : k93.M w base ok x cs) : cs = [.int .i64 x.f0, .int .i64 x.f1, .int .i64 x.f2] := by
 obtain ⟨_, _, rfl, rfl, ⟨_, _, rfl, rfl, rfl⟩⟩ := h; exact rfl
theorem k93_mkM (w : World) (base : Nat) (ok : Nat → Prop) (x : S93)  : k93.M w base ok x [.int .i64 x.f0, .int .i64 x.f1, .int .i64 x.f2] := ⟨[.int .i64 x.f0], [.int .i64 x.f1, .int .i64 x.f2], rfl, rfl, ⟨[.int .i64 x.f1], [.int .i64 x.f2], rfl, rfl, rfl⟩⟩
def rd_T93 (xs : List S93) (i : Int) : S93 := xs.getD i.toNat z93
theorem at_T93 {w : World} {A : Option Addr} {n : Nat} {xs : List S93} (h : Kd.C k93 w A n xs) (i : Int) (h0 : 0 ≤ i) (h1 : i < n) : ∃ ad , A = some ad ∧ w.cell? (ad.add (i.toNat * 3)) = some (.int .i64 (rd_T93 xs i).f0) ∧ w.cell? ⟨(ad.add (i.toNat * 3)).block, (ad.add (i.toNat * 3)).off + 1, none⟩ = some (.int .i64 (rd_T93 xs i).f1) ∧ w.cell? ⟨(ad.add (i.toNat * 3)).block, (ad.add (i.toNat * 3)).off + 2, none⟩ = some (.int .i64 (rd_T93 xs i).f2) := by
 obtain ⟨ad, c, e, _, hK, hc0⟩ := Kd.C_get h z93 i h0 h1; have hc : ∀ j u, c[j]? = some u → w.cell? (ad.add (i.toNat * 3 + j)) = some u := hc0; obtain rfl := k93_open hK; exact ⟨ad, e, hc 0 _ rfl, by rw [← add_field _ _ 1 (by omega)]; exact hc 1 _ rfl, by rw [← add_field _ _ 2 (by omega)]; exact hc 2 _ rfl⟩
structure S96 where
 f0 : Int
 f1 : Int
 f2 : Int
 f3 : Int
 f4 : Int
def z96 : S96 := ⟨(0 : Int), (0 : Int), (0 : Int), (0 : Int), (0 : Int)⟩
def k96 : Kd S96 := Kd.iso (Kd.pair (Kd.int .i64) (Kd.pair (Kd.int .i64) (Kd.pair (Kd.int .i64) (Kd.pair (Kd.int .i64) (Kd.int .i64))))) (fun x : S96 => (x.f0, x.f1, x.f2, x.f3, x.f4))
theorem k96_open {w : World} {x : S96} {cs : List Value} (h : k96.K w x cs) : cs = [.int .i64 x.f0, .int .i64 x.f1, .int .i64 x.f2, .int .i64 x.f3, .int .i64 x.f4] := by
 obtain ⟨_, _, rfl, rfl, ⟨_, _, rfl, rfl, ⟨_, _, rfl, rfl, ⟨_, _, rfl, rfl, rfl⟩⟩⟩⟩ := h; exact rfl
theorem k96_openM {w : World} {base : Nat} {ok : Nat → Prop} {x : S96} {cs : List Value} (h : k96.M w base ok x cs) : cs = [.int .i64 x.f0, .int .i64 x.f1, .int .i64 x.f2, .int .i64 x.f3, .int .i64 x.f4] := by
 obtain ⟨_, _, rfl, rfl, ⟨_, _, rfl, rfl, ⟨_, _, rfl, rfl, ⟨_, _, rfl, rfl, rfl⟩⟩⟩⟩ := h; exact rfl
theorem k96_mkM (w : World) (base : Nat) (ok : Nat → Prop) (x : S96)  : k96.M w base ok x [.int .i64 x.f0, .int .i64 x.f1, .int .i64 x.f2, .int .i64 x.f3, .int .i64 x.f4] := ⟨[.int .i64 x.f0], [.int .i64 x.f1, .int .i64 x.f2, .int .i64 x.f3, .int .i64 x.f4], rfl, rfl, ⟨[.int .i64 x.f1], [.int .i64 x.f2, .int .i64 x.f3, .int .i64 x.f4], rfl, rfl, ⟨[.int .i64 x.f2], [.int .i64 x.f3, .int .i64 x.f4], rfl, rfl, ⟨[.int .i64 x.f3], [.int .i64 x.f4], rfl, rfl, rfl⟩⟩⟩⟩
def rd_T96 (xs : List S96) (i : Int) : S96 := xs.getD i.toNat z96
theorem at_T96 {w : World} {A : Option Addr} {n : Nat} {xs : List S96} (h : Kd.C k96 w A n xs) (i : Int) (h0 : 0 ≤ i) (h1 : i < n) : ∃ ad , A = some ad ∧ w.cell? (ad.add (i.toNat * 5)) = some (.int .i64 (rd_T96 xs i).f0) ∧ w.cell? ⟨(ad.add (i.toNat * 5)).block, (ad.add (i.toNat * 5)).off + 1, none⟩ = some (.int .i64 (rd_T96 xs i).f1) ∧ w.cell? ⟨(ad.add (i.toNat * 5)).block, (ad.add (i.toNat * 5)).off + 2, none⟩ = some (.int .i64 (rd_T96 xs i).f2) ∧ w.cell? ⟨(ad.add (i.toNat * 5)).block, (ad.add (i.toNat * 5)).off + 3, none⟩ = some (.int .i64 (rd_T96 xs i).f3) ∧ w.cell? ⟨(ad.add (i.toNat * 5)).block, (ad.add (i.toNat * 5)).off + 4, none⟩ = some (.int .i64 (rd_T96 xs i).f4) := by
 obtain ⟨ad, c, e, _, hK, hc0⟩ := Kd.C_get h z96 i h0 h1; have hc : ∀ j u, c[j]? = some u → w.cell? (ad.add (i.toNat * 5 + j)) = some u := hc0; obtain rfl := k96_open hK; exact ⟨ad, e, hc 0 _ rfl, by rw [← add_field _ _ 1 (by omega)]; exact hc 1 _ rfl, by rw [← add_field _ _ 2 (by omega)]; exact hc 2 _ rfl, by rw [← add_field _ _ 3 (by omega)]; exact hc 3 _ rfl, by rw [← add_field _ _ 4 (by omega)]; exact hc 4 _ rfl⟩
structure S64 where
 f0 : Int
 f1 : Int
 f2 : Int
 f3 : Int
 f4 : Int
 f5 : Int
 f6 : Int
 f7 : Int
def z64 : S64 := ⟨(0 : Int), (0 : Int), (0 : Int), (0 : Int), (0 : Int), (0 : Int), (0 : Int), (0 : Int)⟩
def k64 : Kd S64 := Kd.iso (Kd.pair (Kd.int .i64) (Kd.pair (Kd.int .i64) (Kd.pair (Kd.int .i64) (Kd.pair (Kd.int .i64) (Kd.pair (Kd.int .i64) (Kd.pair (Kd.int .i64) (Kd.pair (Kd.int .i64) (Kd.int .i64)))))))) (fun x : S64 => (x.f0, x.f1, x.f2, x.f3, x.f4, x.f5, x.f6, x.f7))
theorem k64_open {w : World} {x : S64} {cs : List Value} (h : k64.K w x cs) : cs = [.int .i64 x.f0, .int .i64 x.f1, .int .i64 x.f2, .int .i64 x.f3, .int .i64 x.f4, .int .i64 x.f5, .int .i64 x.f6, .int .i64 x.f7] := by
 obtain ⟨_, _, rfl, rfl, ⟨_, _, rfl, rfl, ⟨_, _, rfl, rfl, ⟨_, _, rfl, rfl, ⟨_, _, rfl, rfl, ⟨_, _, rfl, rfl, ⟨_, _, rfl, rfl, rfl⟩⟩⟩⟩⟩⟩⟩ := h; exact rfl
theorem k64_mk (w : World) (x : S64)  : k64.K w x [.int .i64 x.f0, .int .i64 x.f1, .int .i64 x.f2, .int .i64 x.f3, .int .i64 x.f4, .int .i64 x.f5, .int .i64 x.f6, .int .i64 x.f7] := ⟨[.int .i64 x.f0], [.int .i64 x.f1, .int .i64 x.f2, .int .i64 x.f3, .int .i64 x.f4, .int .i64 x.f5, .int .i64 x.f6, .int .i64 x.f7], rfl, rfl, ⟨[.int .i64 x.f1], [.int .i64 x.f2, .int .i64 x.f3, .int .i64 x.f4, .int .i64 x.f5, .int .i64 x.f6, .int .i64 x.f7], rfl, rfl, ⟨[.int .i64 x.f2], [.int .i64 x.f3, .int .i64 x.f4, .int .i64 x.f5, .int .i64 x.f6, .int .i64 x.f7], rfl, rfl, ⟨[.int .i64 x.f3], [.int .i64 x.f4, .int .i64 x.f5, .int .i64 x.f6, .int .i64 x.f7], rfl, rfl, ⟨[.int .i64 x.f4], [.int .i64 x.f5, .int .i64 x.f6, .int .i64 x.f7], rfl, rfl, ⟨[.int .i64 x.f5], [.int .i64 x.f6, .int .i64 x.f7], rfl, rfl, ⟨[.int .i64 x.f6], [.int .i64 x.f7], rfl, rfl, rfl⟩⟩⟩⟩⟩⟩⟩
def rd_T64 (xs : List S64) (i : Int) : S64 := xs.getD i.toNat z64
theorem at_T64 {w : World} {A : Option Addr} {n : Nat} {xs : List S64} (h : Kd.C k64 w A n xs) (i : Int) (h0 : 0 ≤ i) (h1 : i < n) : ∃ ad , A = some ad ∧ w.cell? (ad.add (i.toNat * 8)) = some (.int .i64 (rd_T64 xs i).f0) ∧ w.cell? ⟨(ad.add (i.toNat * 8)).block, (ad.add (i.toNat * 8)).off + 1, none⟩ = some (.int .i64 (rd_T64 xs i).f1) ∧ w.cell? ⟨(ad.add (i.toNat * 8)).block, (ad.add (i.toNat * 8)).off + 2, none⟩ = some (.int .i64 (rd_T64 xs i).f2) ∧ w.cell? ⟨(ad.add (i.toNat * 8)).block, (ad.add (i.toNat * 8)).off + 3, none⟩ = some (.int .i64 (rd_T64 xs i).f3) ∧ w.cell? ⟨(ad.add (i.toNat * 8)).block, (ad.add (i.toNat * 8)).off + 4, none⟩ = some (.int .i64 (rd_T64 xs i).f4) ∧ w.cell? ⟨(ad.add (i.toNat * 8)).block, (ad.add (i.toNat * 8)).off + 5, none⟩ = some (.int .i64 (rd_T64 xs i).f5) ∧ w.cell? ⟨(ad.add (i.toNat * 8)).block, (ad.add (i.toNat * 8)).off + 6, none⟩ = some (.int .i64 (rd_T64 xs i).f6) ∧ w.cell? ⟨(ad.add (i.toNat * 8)).block, (ad.add (i.toNat * 8)).off + 7, none⟩ = some (.int .i64 (rd_T64 xs i).f7) := by
 obtain ⟨ad, c, e, _, hK, hc0⟩ := Kd.C_get h z64 i h0 h1; have hc : ∀ j u, c[j]? = some u → w.cell? (ad.add (i.toNat * 8 + j)) = some u := hc0; obtain rfl := k64_open hK; exact ⟨ad, e, hc 0 _ rfl, by rw [← add_field _ _ 1 (by omega)]; exact hc 1 _ rfl, by rw [← add_field _ _ 2 (by omega)]; exact hc 2 _ rfl, by rw [← add_field _ _ 3 (by omega)]; exact hc 3 _ rfl, by rw [← add_field _ _ 4 (by omega)]; exact hc 4 _ rfl, by rw [← add_field _ _ 5 (by omega)]; exact hc 5 _ rfl, by rw [← add_field _ _ 6 (by omega)]; exact hc 6 _ rfl, by rw [← add_field _ _ 7 (by omega)]; exact hc 7 _ rfl⟩
structure S106 where
 f0 : Int
 f1 : Int
def z106 : S106 := ⟨(0 : Int), (0 : Int)⟩
def k106 : Kd S106 := Kd.iso (Kd.pair (Kd.int .i64) (Kd.int .i64)) (fun x : S106 => (x.f0, x.f1))
theorem k106_open {w : World} {x : S106} {cs : List Value} (h : k106.K w x cs) : cs = [.int .i64 x.f0, .int .i64 x.f1] := by
 obtain ⟨_, _, rfl, rfl, rfl⟩ := h; exact rfl
theorem k106_mk (w : World) (x : S106)  : k106.K w x [.int .i64 x.f0, .int .i64 x.f1] := ⟨[.int .i64 x.f0], [.int .i64 x.f1], rfl, rfl, rfl⟩
def rd_T106 (xs : List S106) (i : Int) : S106 := xs.getD i.toNat z106
theorem at_T106 {w : World} {A : Option Addr} {n : Nat} {xs : List S106} (h : Kd.C k106 w A n xs) (i : Int) (h0 : 0 ≤ i) (h1 : i < n) : ∃ ad , A = some ad ∧ w.cell? (ad.add (i.toNat * 2)) = some (.int .i64 (rd_T106 xs i).f0) ∧ w.cell? ⟨(ad.add (i.toNat * 2)).block, (ad.add (i.toNat * 2)).off + 1, none⟩ = some (.int .i64 (rd_T106 xs i).f1) := by
 obtain ⟨ad, c, e, _, hK, hc0⟩ := Kd.C_get h z106 i h0 h1; have hc : ∀ j u, c[j]? = some u → w.cell? (ad.add (i.toNat * 2 + j)) = some u := hc0; obtain rfl := k106_open hK; exact ⟨ad, e, hc 0 _ rfl, by rw [← add_field _ _ 1 (by omega)]; exact hc 1 _ rfl⟩
structure S108 where
 f0 : Int
 f1 : Int
def z108 : S108 := ⟨(0 : Int), (0 : Int)⟩
def k108 : Kd S108 := Kd.iso (Kd.pair (Kd.int .i64) (Kd.int .i64)) (fun x : S108 => (x.f0, x.f1))
theorem k108_open {w : World} {x : S108} {cs : List Value} (h : k108.K w x cs) : cs = [.int .i64 x.f0, .int .i64 x.f1] := by
 obtain ⟨_, _, rfl, rfl, rfl⟩ := h; exact rfl
theorem k108_mk (w : World) (x : S108)  : k108.K w x [.int .i64 x.f0, .int .i64 x.f1] := ⟨[.int .i64 x.f0], [.int .i64 x.f1], rfl, rfl, rfl⟩
def rd_T108 (xs : List S108) (i : Int) : S108 := xs.getD i.toNat z108
theorem at_T108 {w : World} {A : Option Addr} {n : Nat} {xs : List S108} (h : Kd.C k108 w A n xs) (i : Int) (h0 : 0 ≤ i) (h1 : i < n) : ∃ ad , A = some ad ∧ w.cell? (ad.add (i.toNat * 2)) = some (.int .i64 (rd_T108 xs i).f0) ∧ w.cell? ⟨(ad.add (i.toNat * 2)).block, (ad.add (i.toNat * 2)).off + 1, none⟩ = some (.int .i64 (rd_T108 xs i).f1) := by
 obtain ⟨ad, c, e, _, hK, hc0⟩ := Kd.C_get h z108 i h0 h1; have hc : ∀ j u, c[j]? = some u → w.cell? (ad.add (i.toNat * 2 + j)) = some u := hc0; obtain rfl := k108_open hK; exact ⟨ad, e, hc 0 _ rfl, by rw [← add_field _ _ 1 (by omega)]; exact hc 1 _ rfl⟩
structure S110 where
 f0 : Int
 f1 : Int
 f2 : Int
def z110 : S110 := ⟨(0 : Int), (0 : Int), (0 : Int)⟩
def k110 : Kd S110 := Kd.iso (Kd.pair (Kd.int .i64) (Kd.pair (Kd.int .i64) (Kd.int .i64))) (fun x : S110 => (x.f0, x.f1, x.f2))
theorem k110_open {w : World} {x : S110} {cs : List Value} (h : k110.K w x cs) : cs = [.int .i64 x.f0, .int .i64 x.f1, .int .i64 x.f2] := by
 obtain ⟨_, _, rfl, rfl, ⟨_, _, rfl, rfl, rfl⟩⟩ := h; exact rfl
theorem k110_mk (w : World) (x : S110)  : k110.K w x [.int .i64 x.f0, .int .i64 x.f1, .int .i64 x.f2] := ⟨[.int .i64 x.f0], [.int .i64 x.f1, .int .i64 x.f2], rfl, rfl, ⟨[.int .i64 x.f1], [.int .i64 x.f2], rfl, rfl, rfl⟩⟩
def rd_T110 (xs : List S110) (i : Int) : S110 := xs.getD i.toNat z110
theorem at_T110 {w : World} {A : Option Addr} {n : Nat} {xs : List S110} (h : Kd.C k110 w A n xs) (i : Int) (h0 : 0 ≤ i) (h1 : i < n) : ∃ ad , A = some ad ∧ w.cell? (ad.add (i.toNat * 3)) = some (.int .i64 (rd_T110 xs i).f0) ∧ w.cell? ⟨(ad.add (i.toNat * 3)).block, (ad.add (i.toNat * 3)).off + 1, none⟩ = some (.int .i64 (rd_T110 xs i).f1) ∧ w.cell? ⟨(ad.add (i.toNat * 3)).block, (ad.add (i.toNat * 3)).off + 2, none⟩ = some (.int .i64 (rd_T110 xs i).f2) := by
 obtain ⟨ad, c, e, _, hK, hc0⟩ := Kd.C_get h z110 i h0 h1; have hc : ∀ j u, c[j]? = some u → w.cell? (ad.add (i.toNat * 3 + j)) = some u := hc0; obtain rfl := k110_open hK; exact ⟨ad, e, hc 0 _ rfl, by rw [← add_field _ _ 1 (by omega)]; exact hc 1 _ rfl, by rw [← add_field _ _ 2 (by omega)]; exact hc 2 _ rfl⟩
structure S112 where
 f0 : Int
 f1 : Int
 f2 : Int
 f3 : Int
 f4 : Int
def z112 : S112 := ⟨(0 : Int), (0 : Int), (0 : Int), (0 : Int), (0 : Int)⟩
def k112 : Kd S112 := Kd.iso (Kd.pair (Kd.int .i64) (Kd.pair (Kd.int .i64) (Kd.pair (Kd.int .i64) (Kd.pair (Kd.int .i64) (Kd.int .i64))))) (fun x : S112 => (x.f0, x.f1, x.f2, x.f3, x.f4))
theorem k112_open {w : World} {x : S112} {cs : List Value} (h : k112.K w x cs) : cs = [.int .i64 x.f0, .int .i64 x.f1, .int .i64 x.f2, .int .i64 x.f3, .int .i64 x.f4] := by
 obtain ⟨_, _, rfl, rfl, ⟨_, _, rfl, rfl, ⟨_, _, rfl, rfl, ⟨_, _, rfl, rfl, rfl⟩⟩⟩⟩ := h; exact rfl
theorem k112_mk (w : World) (x : S112)  : k112.K w x [.int .i64 x.f0, .int .i64 x.f1, .int .i64 x.f2, .int .i64 x.f3, .int .i64 x.f4] := ⟨[.int .i64 x.f0], [.int .i64 x.f1, .int .i64 x.f2, .int .i64 x.f3, .int .i64 x.f4], rfl, rfl, ⟨[.int .i64 x.f1], [.int .i64 x.f2, .int .i64 x.f3, .int .i64 x.f4], rfl, rfl, ⟨[.int .i64 x.f2], [.int .i64 x.f3, .int .i64 x.f4], rfl, rfl, ⟨[.int .i64 x.f3], [.int .i64 x.f4], rfl, rfl, rfl⟩⟩⟩⟩
def rd_T112 (xs : List S112) (i : Int) : S112 := xs.getD i.toNat z112
theorem at_T112 {w : World} {A : Option Addr} {n : Nat} {xs : List S112} (h : Kd.C k112 w A n xs) (i : Int) (h0 : 0 ≤ i) (h1 : i < n) : ∃ ad , A = some ad ∧ w.cell? (ad.add (i.toNat * 5)) = some (.int .i64 (rd_T112 xs i).f0) ∧ w.cell? ⟨(ad.add (i.toNat * 5)).block, (ad.add (i.toNat * 5)).off + 1, none⟩ = some (.int .i64 (rd_T112 xs i).f1) ∧ w.cell? ⟨(ad.add (i.toNat * 5)).block, (ad.add (i.toNat * 5)).off + 2, none⟩ = some (.int .i64 (rd_T112 xs i).f2) ∧ w.cell? ⟨(ad.add (i.toNat * 5)).block, (ad.add (i.toNat * 5)).off + 3, none⟩ = some (.int .i64 (rd_T112 xs i).f3) ∧ w.cell? ⟨(ad.add (i.toNat * 5)).block, (ad.add (i.toNat * 5)).off + 4, none⟩ = some (.int .i64 (rd_T112 xs i).f4) := by
 obtain ⟨ad, c, e, _, hK, hc0⟩ := Kd.C_get h z112 i h0 h1; have hc : ∀ j u, c[j]? = some u → w.cell? (ad.add (i.toNat * 5 + j)) = some u := hc0; obtain rfl := k112_open hK; exact ⟨ad, e, hc 0 _ rfl, by rw [← add_field _ _ 1 (by omega)]; exact hc 1 _ rfl, by rw [← add_field _ _ 2 (by omega)]; exact hc 2 _ rfl, by rw [← add_field _ _ 3 (by omega)]; exact hc 3 _ rfl, by rw [← add_field _ _ 4 (by omega)]; exact hc 4 _ rfl⟩
end Go.Proofs.Ytmfgajbkcnlkcaa.P
namespace Go.Proofs.Ytmfgajbkcnlkcaa
section
open Go Go.RowKit Go.Proofs.YtmfgajbkcnlkcaaW.PrintWords Go.Proofs.YtmfgajbkcnlkcaaW.PrintLast Go.Proofs.YtmfgajbkcnlkcaaW.PrintMore
theorem bb_ {p : Prop} (h : p := by repeat (first | (with_reducible first | exact HB.out | apply below_alloc | apply pw_below_drewN | apply below_drew1) | exact HB.out)) : p := h
theorem bc_ {p : Prop} (h : p := by (try simp only [List.map_toArray, List.map_cons, List.map_nil]); first | done | rfl | (simp only [List.length_drop, List.length_take]; rfl)) : p := h
theorem sp_ {p : Prop} (h : p := by simp only [Act.put, List.setIfInBounds_toArray, List.set_cons_zero, List.set_cons_succ, i64_w, i32_w]; rfl) : p := h
theorem od_ {p : Prop} [Decidable p] (h : decide p = true := by first | (with_reducible assumption) | assumption) : p := of_decide_eq_true h
theorem kr_ {p : Prop} (h : p := by kernel_rfl) : p := h
theorem er_ {p : Prop} (h : p := by first | rfl | (simp [errW_none, errW_some] <;> rfl) | (simp [*, errW_none, errW_some] <;> rfl)) : p := h
theorem cl_ {w W : World} {p : Addr} {v : Value} (hb : Below w.heap.size w W) (h : w.cell? p = some v) : W.cell? p = some v := (hb.cell (World.block_lt_of_cell? w _ h)).trans h
def ba_ (n m : Nat) : Array Bool := ((List.range n).map fun i => m.testBit i).toArray
theorem pu_ {P : Program} {ops : Array Oper} {Q : Exit → Act → World → Prop} {md : Region.Mode} {S : World → Prop} {ds : List Nat} {fuel : Nat} {l : Array Bool} {a a' : Act} {w : World} {T : Bool × List (List Nat × List Nat)} {oi : Oper} {v : Value} (i n : Nat) (hT : rtab md ops = T) (l' : Array Bool) (h : wpAnyLast P md ops Q S ds fuel l' a' w) (hi : ops[i]? = some oi := by rfl) (hN : oi.dst = some n := by rfl) (hc : anyT T l.toList l'.toList i = true := by kernel_rfl) (hQ : ∀ c a w, Q (.panic c) (a.put oi.dst v) w → Q (.panic c) a w := by exact fun _ _ _ h => h) (hw : Region.wanted oi (yielded ops a.tmps) = true := by rfl) (hv : ∀ w', (execOp a.eval oi).run P w' = .ok (.value v) w' := by intro w'; go_simp; with_reducible rfl) (ha : a.put (some n) v = a' := by simp only [Act.put, List.setIfInBounds_toArray, List.set_cons_zero, List.set_cons_succ, i64_w, i32_w]; rfl) : wpAnyLast P md ops Q S ds (fuel + 1) l a w := pure_ l' hi hN (any_of hT hc) hQ (Or.inl ⟨hw, hv⟩) ha h
theorem ta_ {P : Program} {ops : Array Oper} {Q : Exit → Act → World → Prop} {md : Region.Mode} {S : World → Prop} {ds : List Nat} {fuel : Nat} {l : Array Bool} {a a' : Act} {w : World} {T : Bool × List (List Nat × List Nat)} {B : List Nat} {oi : Oper} {v : Value} (i n : Nat) (hT : rtab md ops = T) (hW : waitsOk T.2 B = true) (hS : S w) (l' : Array Bool) (h : wpAnyLast P md ops Q S ds fuel l' a' w) (hi : ops[i]? = some oi := by rfl) (hN : oi.dst = some n := by rfl) (hc : takeW T B ds l.toList l'.toList i = true := by kernel_rfl) (hQ : ∀ c a w, Q (.panic c) (a.put oi.dst v) w → Q (.panic c) a w := by exact fun _ _ _ h => h) (hw : Region.wanted oi (yielded ops a.tmps) = true := by rfl) (hv : ∀ w', S w' → (execOp a.eval oi).run P w' = .ok (.value v) w' := by intro w' hs_; (try dsimp only at hs_); (repeat (obtain ⟨s_, hs_⟩ := hs_)); go_simp; with_reducible rfl) (ha : a.put (some n) v = a' := by simp only [Act.put, List.setIfInBounds_toArray, List.set_cons_zero, List.set_cons_succ, i64_w, i32_w]; rfl) : wpAnyLast P md ops Q S ds (fuel + 1) l a w := take_ l' hi hN (take_ofW hT hW hc) hQ (Or.inl ⟨hw, hv⟩) hS ha h
theorem be_ {P : Program} {ops : Array Oper} {Q : Exit → Act → World → Prop} {rest : List Oper} {o : Oper} {a : Act} {W : World} (N : Nat) {cs : Array Value} {t : TypeId} (h : ∀ g, g = W.heap.size → ∀ w1, w1.heap[g]? = some (.cells cs t (0, 0)) → Below W.heap.size W w1 → wpList P ops Q rest (a.put o.dst (.pointer (some ⟨g, 0, none⟩))) w1) (hd : o.dst = some N := by rfl) (hg : o.guard = none := by rfl) (hr : (execOp a.eval o).run P W = .ok (.value (.pointer (some ⟨W.heap.size, 0, none⟩))) (W.alloc (.cells cs t (0, 0))) := by first | (go_simp; done) | (go_simp; rfl)) : wpList P ops Q (o :: rest) a W := box_event hg hd hr h
theorem ce2_ {w : World} {g : Nat} {t : TypeId} {v0 v1 : Value} (h : w.heap[g]? = some (.cells #[v0, v1] t (0, 0))) : w.cell? ⟨g, 0, none⟩ = some v0 ∧ w.cell? ⟨g, 1, none⟩ = some v1 ∧ w.frozen? ⟨g, 0, none⟩ = false ∧ w.frozen? ⟨g, 1, none⟩ = false := ⟨(blk_cell h 0).trans rfl, (blk_cell h 1).trans rfl, blk_frozen h 0, blk_frozen h 1⟩
theorem ce8_ {w : World} {g : Nat} {t : TypeId} {v0 v1 v2 v3 v4 v5 v6 v7 : Value} (h : w.heap[g]? = some (.cells #[v0, v1, v2, v3, v4, v5, v6, v7] t (0, 0))) : w.cell? ⟨g, 0, none⟩ = some v0 ∧ w.cell? ⟨g, 1, none⟩ = some v1 ∧ w.cell? ⟨g, 2, none⟩ = some v2 ∧ w.cell? ⟨g, 3, none⟩ = some v3 ∧ w.cell? ⟨g, 4, none⟩ = some v4 ∧ w.cell? ⟨g, 5, none⟩ = some v5 ∧ w.cell? ⟨g, 6, none⟩ = some v6 ∧ w.cell? ⟨g, 7, none⟩ = some v7 ∧ w.frozen? ⟨g, 0, none⟩ = false ∧ w.frozen? ⟨g, 1, none⟩ = false ∧ w.frozen? ⟨g, 2, none⟩ = false ∧ w.frozen? ⟨g, 3, none⟩ = false ∧ w.frozen? ⟨g, 4, none⟩ = false ∧ w.frozen? ⟨g, 5, none⟩ = false ∧ w.frozen? ⟨g, 6, none⟩ = false ∧ w.frozen? ⟨g, 7, none⟩ = false := ⟨(blk_cell h 0).trans rfl, (blk_cell h 1).trans rfl, (blk_cell h 2).trans rfl, (blk_cell h 3).trans rfl, (blk_cell h 4).trans rfl, (blk_cell h 5).trans rfl, (blk_cell h 6).trans rfl, (blk_cell h 7).trans rfl, blk_frozen h 0, blk_frozen h 1, blk_frozen h 2, blk_frozen h 3, blk_frozen h 4, blk_frozen h 5, blk_frozen h 6, blk_frozen h 7⟩
theorem nf_ : ¬ (false = true) := by decide
theorem bh_ {q r p : Prop} (g : q) (f : r) (h : q → r → p := by intro g_ f_; repeat (first | (with_reducible first | exact HB.out | apply below_alloc | apply pw_below_drewN | apply below_drew1 | refine below_set ?_ g_ | refine below_set ?_ f_) | exact HB.out)) : p := h g f
theorem rs_ {p : Prop} (h : p := by first | rfl | (simp; done) | (simp [*]; done)) : p := h
theorem bx_ {w W w' : World} {g : Nat} {p : Prop} (hg : g = W.heap.size) (hbox : p) (hb : Below W.heap.size W w') (h : Below w.heap.size w W := by repeat (first | (with_reducible first | exact HB.out | apply below_alloc | apply pw_below_drewN | apply below_drew1) | exact HB.out)) : Aside0 (Below w.heap.size w w') ∧ Aside0 p ∧ Aside0 (w.heap.size ≤ g) ∧ Aside0 (w.heap.size ≤ g) := by rw [hg]; exact ⟨⟨below_step h hb⟩, ⟨hbox⟩, ⟨below_size h⟩, ⟨below_size h⟩⟩
theorem bz_ {w w0 W w' : World} {g n : Nat} {o : Obj} {q p : Prop} (hg : n = W.heap.size) (hbox : p) (hb : Below W.heap.size W w') (k : w0.heap[g]? = some o) (e : q) (h : w0.heap[g]? = some o → W.heap[g]? = some o := by intro g_; (with_reducible repeat (first | refine blk_drewN ?_ _ | refine blk_drew ?_ | refine blk_alloc ?_ _)); exact g_) (f : q → Below w.heap.size w W := by intro g_; repeat (first | (with_reducible first | exact HB.out | apply below_alloc | apply pw_below_drewN | apply below_drew1 | refine below_set ?_ g_) | exact HB.out)) : Aside0 (w'.heap[g]? = some o) ∧ Aside0 (Below w.heap.size w w') ∧ Aside0 p ∧ Aside0 (w.heap.size ≤ n) ∧ Aside0 (w.heap.size ≤ n) ∧ Aside0 (g ≠ n) ∧ Aside0 (n ≠ g) := by rw [hg]; exact ⟨⟨blk_below (h k) hb⟩, ⟨below_step (f e) hb⟩, ⟨hbox⟩, ⟨below_size (f e)⟩, ⟨below_size (f e)⟩, ⟨Nat.ne_of_lt (blk_lt (h k))⟩, ⟨Nat.ne_of_gt (blk_lt (h k))⟩⟩
theorem cl2_ {w W : World} {p0 p1 : Addr} {v0 v1 : Value} (hb : Below w.heap.size w W) (h0 : w.cell? p0 = some v0) (h1 : w.cell? p1 = some v1) : W.cell? p0 = some v0 ∧ W.cell? p1 = some v1 := ⟨(hb.cell (World.block_lt_of_cell? w _ h0)).trans h0, (hb.cell (World.block_lt_of_cell? w _ h1)).trans h1⟩
theorem cl6_ {w W : World} {p0 p1 p2 p3 p4 p5 : Addr} {v0 v1 v2 v3 v4 v5 : Value} (hb : Below w.heap.size w W) (h0 : w.cell? p0 = some v0) (h1 : w.cell? p1 = some v1) (h2 : w.cell? p2 = some v2) (h3 : w.cell? p3 = some v3) (h4 : w.cell? p4 = some v4) (h5 : w.cell? p5 = some v5) : W.cell? p0 = some v0 ∧ W.cell? p1 = some v1 ∧ W.cell? p2 = some v2 ∧ W.cell? p3 = some v3 ∧ W.cell? p4 = some v4 ∧ W.cell? p5 = some v5 := ⟨(hb.cell (World.block_lt_of_cell? w _ h0)).trans h0, (hb.cell (World.block_lt_of_cell? w _ h1)).trans h1, (hb.cell (World.block_lt_of_cell? w _ h2)).trans h2, (hb.cell (World.block_lt_of_cell? w _ h3)).trans h3, (hb.cell (World.block_lt_of_cell? w _ h4)).trans h4, (hb.cell (World.block_lt_of_cell? w _ h5)).trans h5⟩
theorem cl8_ {w W : World} {p0 p1 p2 p3 p4 p5 p6 p7 : Addr} {v0 v1 v2 v3 v4 v5 v6 v7 : Value} (hb : Below w.heap.size w W) (h0 : w.cell? p0 = some v0) (h1 : w.cell? p1 = some v1) (h2 : w.cell? p2 = some v2) (h3 : w.cell? p3 = some v3) (h4 : w.cell? p4 = some v4) (h5 : w.cell? p5 = some v5) (h6 : w.cell? p6 = some v6) (h7 : w.cell? p7 = some v7) : W.cell? p0 = some v0 ∧ W.cell? p1 = some v1 ∧ W.cell? p2 = some v2 ∧ W.cell? p3 = some v3 ∧ W.cell? p4 = some v4 ∧ W.cell? p5 = some v5 ∧ W.cell? p6 = some v6 ∧ W.cell? p7 = some v7 := ⟨(hb.cell (World.block_lt_of_cell? w _ h0)).trans h0, (hb.cell (World.block_lt_of_cell? w _ h1)).trans h1, (hb.cell (World.block_lt_of_cell? w _ h2)).trans h2, (hb.cell (World.block_lt_of_cell? w _ h3)).trans h3, (hb.cell (World.block_lt_of_cell? w _ h4)).trans h4, (hb.cell (World.block_lt_of_cell? w _ h5)).trans h5, (hb.cell (World.block_lt_of_cell? w _ h6)).trans h6, (hb.cell (World.block_lt_of_cell? w _ h7)).trans h7⟩
end
end Go.Proofs.Ytmfgajbkcnlkcaa
namespace Go.Proofs.Ytmfgajbkcnlkcaa.P
open Go.RowKit Go.Proofs.YtmfgajbkcnlkcaaW.PrintWords Go.Proofs.YtmfgajbkcnlkcaaW.PrintLast Go.Proofs.YtmfgajbkcnlkcaaW.PrintMore
attribute [local go_sem] max2_int min2_int max_two min_two max_three min_three max_four min_four   -- for this text's walks alone
set_option linter.unusedVariables false
set_option linter.unusedSimpArgs false
def laws_eqTrade.f (a0_0 : Int) (a0_1 : Int) (a0_2 : Int) (a0_3 : Int) (a0_4 : Int) (a0_5 : Int) (a0_6 : Int) (a0_7 : Int) (a1_0 : Int) (a1_1 : Int) (a1_2 : Int) (a1_3 : Int) (a1_4 : Int) (a1_5 : Int) (a1_6 : Int) (a1_7 : Int) : Option (Bool) := if a0_0 = a1_0 then (if a0_1 = a1_1 then (if a0_2 = a1_2 then (if a0_3 = a1_3 then (if a0_4 = a1_4 then (if a0_5 = a1_5 then (if a0_6 = a1_6 then (if a0_7 = a1_7 then (some true) else (some false)) else (some false)) else (some false)) else (some false)) else (some false)) else (some false)) else (some false)) else (some false)
theorem laws_eqTrade.calls (a0_0 : Int) (a0_1 : Int) (a0_2 : Int) (a0_3 : Int) (a0_4 : Int) (a0_5 : Int) (a0_6 : Int) (a0_7 : Int) (a1_0 : Int) (a1_1 : Int) (a1_2 : Int) (a1_3 : Int) (a1_4 : Int) (a1_5 : Int) (a1_6 : Int) (a1_7 : Int) (r : Bool) (w : World) (h : laws_eqTrade.f a0_0 a0_1 a0_2 a0_3 a0_4 a0_5 a0_6 a0_7 a1_0 a1_1 a1_2 a1_3 a1_4 a1_5 a1_6 a1_7 = some r) :
 Calls Try.prog 24 #[.agg #[.int .i64 a0_0, .int .i64 a0_1, .int .i64 a0_2, .int .i64 a0_3, .int .i64 a0_4, .int .i64 a0_5, .int .i64 a0_6, .int .i64 a0_7], .agg #[.int .i64 a1_0, .int .i64 a1_1, .int .i64 a1_2, .int .i64 a1_3, .int .i64 a1_4, .int .i64 a1_5, .int .i64 a1_6, .int .i64 a1_7]] w fun e w' => e = .returned (.bool r) ∧ Below w.heap.size w w' := by
 have hu50 := Try.underlying50; have HB := Aside0.mk (Below.refl w.heap.size w); have H : (if a0_0 = a1_0 then (if a0_1 = a1_1 then (if a0_2 = a1_2 then (if a0_3 = a1_3 then (if a0_4 = a1_4 then (if a0_5 = a1_5 then (if a0_6 = a1_6 then (if a0_7 = a1_7 then (some true) else (some false)) else (some false)) else (some false)) else (some false)) else (some false)) else (some false)) else (some false)) else (some false)) = some r := h; clear h
 by_cases c3 : a0_0 = a1_0
 ·
  rw [if_pos c3] at H; have c3b0 : (a0_0 == a1_0) = true := beq_iff_eq.mpr c3; have c3b1 : (a0_0 != a1_0) = false := bne_eq_false_iff_eq.mpr c3; clear c3
  by_cases c4 : a0_1 = a1_1
  ·
   rw [if_pos c4] at H; have c4b0 : (a0_1 == a1_1) = true := beq_iff_eq.mpr c4; have c4b1 : (a0_1 != a1_1) = false := bne_eq_false_iff_eq.mpr c4; clear c4
   by_cases c5 : a0_2 = a1_2
   ·
    rw [if_pos c5] at H; have c5b0 : (a0_2 == a1_2) = true := beq_iff_eq.mpr c5; have c5b1 : (a0_2 != a1_2) = false := bne_eq_false_iff_eq.mpr c5; clear c5
    by_cases c6 : a0_3 = a1_3
    ·
     rw [if_pos c6] at H; have c6b0 : (a0_3 == a1_3) = true := beq_iff_eq.mpr c6; have c6b1 : (a0_3 != a1_3) = false := bne_eq_false_iff_eq.mpr c6; clear c6
     by_cases c7 : a0_4 = a1_4
     ·
      rw [if_pos c7] at H; have c7b0 : (a0_4 == a1_4) = true := beq_iff_eq.mpr c7; have c7b1 : (a0_4 != a1_4) = false := bne_eq_false_iff_eq.mpr c7; clear c7
      by_cases c8 : a0_5 = a1_5
      ·
       rw [if_pos c8] at H; have c8b0 : (a0_5 == a1_5) = true := beq_iff_eq.mpr c8; have c8b1 : (a0_5 != a1_5) = false := bne_eq_false_iff_eq.mpr c8; clear c8
       by_cases c9 : a0_6 = a1_6
       ·
        rw [if_pos c9] at H; have c9b0 : (a0_6 == a1_6) = true := beq_iff_eq.mpr c9; have c9b1 : (a0_6 != a1_6) = false := bne_eq_false_iff_eq.mpr c9; clear c9
        by_cases c10 : a0_7 = a1_7
        ·
         rw [if_pos c10] at H; have c10b0 : (a0_7 == a1_7) = true := beq_iff_eq.mpr c10; have c10b1 : (a0_7 != a1_7) = false := bne_eq_false_iff_eq.mpr c10; clear c10; obtain rfl := Option.some.inj H; go_enter Try.func24, Try.ntmps24; go_wp2_with (first | ((with_reducible refine gate_dst (N := 2) rfl ?_); refine be_ 2 (cs := #[.int .i64 a0_0, .int .i64 a0_1, .int .i64 a0_2, .int .i64 a0_3, .int .i64 a0_4, .int .i64 a0_5, .int .i64 a0_6, .int .i64 a0_7]) (t := 50) ?_; intro gb101 hg w11 hbox hb; have n_ := bx_ hg hbox hb; clear HB; obtain ⟨HB, BK101, GW101, GE101⟩ := n_; clear hb hbox hg) | ((with_reducible refine gate_dst (N := 3) rfl ?_); refine be_ 3 (cs := #[.int .i64 a1_0, .int .i64 a1_1, .int .i64 a1_2, .int .i64 a1_3, .int .i64 a1_4, .int .i64 a1_5, .int .i64 a1_6, .int .i64 a1_7]) (t := 50) ?_; intro gb102 hg w12 hbox hb; have n_ := bz_ hg hbox hb BK101.1 GE101.1; clear BK101 HB; obtain ⟨BK101, HB, BK102, GW102, GE102, NB101_102, NB102_101⟩ := n_; clear hb hbox hg; have hnb13 := NB101_102.1; have hnc13 := NB102_101.1; obtain ⟨_, _, _, _, _, _, _, _, _, _, _, _, _, _, _, _⟩ := ce8_ BK101.1; obtain ⟨_, _, _, _, _, _, _, _, _, _, _, _, _, _, _, _⟩ := ce8_ BK102.1))
         go_ret; exact ⟨er_, bh_ GE101.1 GE102.1⟩
        ·
         rw [if_neg c10] at H; have c10b0 : (a0_7 == a1_7) = false := beq_eq_false_iff_ne.mpr c10; have c10b1 : (a0_7 != a1_7) = true := bne_iff_ne.mpr c10; obtain rfl := Option.some.inj H; go_enter Try.func24, Try.ntmps24; go_wp2_with (first | ((with_reducible refine gate_dst (N := 2) rfl ?_); refine be_ 2 (cs := #[.int .i64 a0_0, .int .i64 a0_1, .int .i64 a0_2, .int .i64 a0_3, .int .i64 a0_4, .int .i64 a0_5, .int .i64 a0_6, .int .i64 a0_7]) (t := 50) ?_; intro gb101 hg w16 hbox hb; have n_ := bx_ hg hbox hb; clear HB; obtain ⟨HB, BK101, GW101, GE101⟩ := n_; clear hb hbox hg) | ((with_reducible refine gate_dst (N := 3) rfl ?_); refine be_ 3 (cs := #[.int .i64 a1_0, .int .i64 a1_1, .int .i64 a1_2, .int .i64 a1_3, .int .i64 a1_4, .int .i64 a1_5, .int .i64 a1_6, .int .i64 a1_7]) (t := 50) ?_; intro gb102 hg w17 hbox hb; have n_ := bz_ hg hbox hb BK101.1 GE101.1; clear BK101 HB; obtain ⟨BK101, HB, BK102, GW102, GE102, NB101_102, NB102_101⟩ := n_; clear hb hbox hg; have hnb18 := NB101_102.1; have hnc18 := NB102_101.1; obtain ⟨_, _, _, _, _, _, _, _, _, _, _, _, _, _, _, _⟩ := ce8_ BK101.1; obtain ⟨_, _, _, _, _, _, _, _, _, _, _, _, _, _, _, _⟩ := ce8_ BK102.1))
         go_ret; exact ⟨er_, bh_ GE101.1 GE102.1⟩
       ·
        rw [if_neg c9] at H; have c9b0 : (a0_6 == a1_6) = false := beq_eq_false_iff_ne.mpr c9; have c9b1 : (a0_6 != a1_6) = true := bne_iff_ne.mpr c9; obtain rfl := Option.some.inj H; go_enter Try.func24, Try.ntmps24; go_wp2_with (first | ((with_reducible refine gate_dst (N := 2) rfl ?_); refine be_ 2 (cs := #[.int .i64 a0_0, .int .i64 a0_1, .int .i64 a0_2, .int .i64 a0_3, .int .i64 a0_4, .int .i64 a0_5, .int .i64 a0_6, .int .i64 a0_7]) (t := 50) ?_; intro gb101 hg w21 hbox hb; have n_ := bx_ hg hbox hb; clear HB; obtain ⟨HB, BK101, GW101, GE101⟩ := n_; clear hb hbox hg) | ((with_reducible refine gate_dst (N := 3) rfl ?_); refine be_ 3 (cs := #[.int .i64 a1_0, .int .i64 a1_1, .int .i64 a1_2, .int .i64 a1_3, .int .i64 a1_4, .int .i64 a1_5, .int .i64 a1_6, .int .i64 a1_7]) (t := 50) ?_; intro gb102 hg w22 hbox hb; have n_ := bz_ hg hbox hb BK101.1 GE101.1; clear BK101 HB; obtain ⟨BK101, HB, BK102, GW102, GE102, NB101_102, NB102_101⟩ := n_; clear hb hbox hg; have hnb23 := NB101_102.1; have hnc23 := NB102_101.1; obtain ⟨_, _, _, _, _, _, _, _, _, _, _, _, _, _, _, _⟩ := ce8_ BK101.1; obtain ⟨_, _, _, _, _, _, _, _, _, _, _, _, _, _, _, _⟩ := ce8_ BK102.1))
        go_ret; exact ⟨er_, bh_ GE101.1 GE102.1⟩
      ·
       rw [if_neg c8] at H; have c8b0 : (a0_5 == a1_5) = false := beq_eq_false_iff_ne.mpr c8; have c8b1 : (a0_5 != a1_5) = true := bne_iff_ne.mpr c8; obtain rfl := Option.some.inj H; go_enter Try.func24, Try.ntmps24; go_wp2_with (first | ((with_reducible refine gate_dst (N := 2) rfl ?_); refine be_ 2 (cs := #[.int .i64 a0_0, .int .i64 a0_1, .int .i64 a0_2, .int .i64 a0_3, .int .i64 a0_4, .int .i64 a0_5, .int .i64 a0_6, .int .i64 a0_7]) (t := 50) ?_; intro gb101 hg w26 hbox hb; have n_ := bx_ hg hbox hb; clear HB; obtain ⟨HB, BK101, GW101, GE101⟩ := n_; clear hb hbox hg) | ((with_reducible refine gate_dst (N := 3) rfl ?_); refine be_ 3 (cs := #[.int .i64 a1_0, .int .i64 a1_1, .int .i64 a1_2, .int .i64 a1_3, .int .i64 a1_4, .int .i64 a1_5, .int .i64 a1_6, .int .i64 a1_7]) (t := 50) ?_; intro gb102 hg w27 hbox hb; have n_ := bz_ hg hbox hb BK101.1 GE101.1; clear BK101 HB; obtain ⟨BK101, HB, BK102, GW102, GE102, NB101_102, NB102_101⟩ := n_; clear hb hbox hg; have hnb28 := NB101_102.1; have hnc28 := NB102_101.1; obtain ⟨_, _, _, _, _, _, _, _, _, _, _, _, _, _, _, _⟩ := ce8_ BK101.1; obtain ⟨_, _, _, _, _, _, _, _, _, _, _, _, _, _, _, _⟩ := ce8_ BK102.1))
       go_ret; exact ⟨er_, bh_ GE101.1 GE102.1⟩
     ·
      rw [if_neg c7] at H; have c7b0 : (a0_4 == a1_4) = false := beq_eq_false_iff_ne.mpr c7; have c7b1 : (a0_4 != a1_4) = true := bne_iff_ne.mpr c7; obtain rfl := Option.some.inj H; go_enter Try.func24, Try.ntmps24; go_wp2_with (first | ((with_reducible refine gate_dst (N := 2) rfl ?_); refine be_ 2 (cs := #[.int .i64 a0_0, .int .i64 a0_1, .int .i64 a0_2, .int .i64 a0_3, .int .i64 a0_4, .int .i64 a0_5, .int .i64 a0_6, .int .i64 a0_7]) (t := 50) ?_; intro gb101 hg w31 hbox hb; have n_ := bx_ hg hbox hb; clear HB; obtain ⟨HB, BK101, GW101, GE101⟩ := n_; clear hb hbox hg) | ((with_reducible refine gate_dst (N := 3) rfl ?_); refine be_ 3 (cs := #[.int .i64 a1_0, .int .i64 a1_1, .int .i64 a1_2, .int .i64 a1_3, .int .i64 a1_4, .int .i64 a1_5, .int .i64 a1_6, .int .i64 a1_7]) (t := 50) ?_; intro gb102 hg w32 hbox hb; have n_ := bz_ hg hbox hb BK101.1 GE101.1; clear BK101 HB; obtain ⟨BK101, HB, BK102, GW102, GE102, NB101_102, NB102_101⟩ := n_; clear hb hbox hg; have hnb33 := NB101_102.1; have hnc33 := NB102_101.1; obtain ⟨_, _, _, _, _, _, _, _, _, _, _, _, _, _, _, _⟩ := ce8_ BK101.1; obtain ⟨_, _, _, _, _, _, _, _, _, _, _, _, _, _, _, _⟩ := ce8_ BK102.1))
      go_ret; exact ⟨er_, bh_ GE101.1 GE102.1⟩
    ·
     rw [if_neg c6] at H; have c6b0 : (a0_3 == a1_3) = false := beq_eq_false_iff_ne.mpr c6; have c6b1 : (a0_3 != a1_3) = true := bne_iff_ne.mpr c6; obtain rfl := Option.some.inj H; go_enter Try.func24, Try.ntmps24; go_wp2_with (first | ((with_reducible refine gate_dst (N := 2) rfl ?_); refine be_ 2 (cs := #[.int .i64 a0_0, .int .i64 a0_1, .int .i64 a0_2, .int .i64 a0_3, .int .i64 a0_4, .int .i64 a0_5, .int .i64 a0_6, .int .i64 a0_7]) (t := 50) ?_; intro gb101 hg w36 hbox hb; have n_ := bx_ hg hbox hb; clear HB; obtain ⟨HB, BK101, GW101, GE101⟩ := n_; clear hb hbox hg) | ((with_reducible refine gate_dst (N := 3) rfl ?_); refine be_ 3 (cs := #[.int .i64 a1_0, .int .i64 a1_1, .int .i64 a1_2, .int .i64 a1_3, .int .i64 a1_4, .int .i64 a1_5, .int .i64 a1_6, .int .i64 a1_7]) (t := 50) ?_; intro gb102 hg w37 hbox hb; have n_ := bz_ hg hbox hb BK101.1 GE101.1; clear BK101 HB; obtain ⟨BK101, HB, BK102, GW102, GE102, NB101_102, NB102_101⟩ := n_; clear hb hbox hg; have hnb38 := NB101_102.1; have hnc38 := NB102_101.1; obtain ⟨_, _, _, _, _, _, _, _, _, _, _, _, _, _, _, _⟩ := ce8_ BK101.1; obtain ⟨_, _, _, _, _, _, _, _, _, _, _, _, _, _, _, _⟩ := ce8_ BK102.1))
     go_ret; exact ⟨er_, bh_ GE101.1 GE102.1⟩
   ·
    rw [if_neg c5] at H; have c5b0 : (a0_2 == a1_2) = false := beq_eq_false_iff_ne.mpr c5; have c5b1 : (a0_2 != a1_2) = true := bne_iff_ne.mpr c5; obtain rfl := Option.some.inj H; go_enter Try.func24, Try.ntmps24; go_wp2_with (first | ((with_reducible refine gate_dst (N := 2) rfl ?_); refine be_ 2 (cs := #[.int .i64 a0_0, .int .i64 a0_1, .int .i64 a0_2, .int .i64 a0_3, .int .i64 a0_4, .int .i64 a0_5, .int .i64 a0_6, .int .i64 a0_7]) (t := 50) ?_; intro gb101 hg w41 hbox hb; have n_ := bx_ hg hbox hb; clear HB; obtain ⟨HB, BK101, GW101, GE101⟩ := n_; clear hb hbox hg) | ((with_reducible refine gate_dst (N := 3) rfl ?_); refine be_ 3 (cs := #[.int .i64 a1_0, .int .i64 a1_1, .int .i64 a1_2, .int .i64 a1_3, .int .i64 a1_4, .int .i64 a1_5, .int .i64 a1_6, .int .i64 a1_7]) (t := 50) ?_; intro gb102 hg w42 hbox hb; have n_ := bz_ hg hbox hb BK101.1 GE101.1; clear BK101 HB; obtain ⟨BK101, HB, BK102, GW102, GE102, NB101_102, NB102_101⟩ := n_; clear hb hbox hg; have hnb43 := NB101_102.1; have hnc43 := NB102_101.1; obtain ⟨_, _, _, _, _, _, _, _, _, _, _, _, _, _, _, _⟩ := ce8_ BK101.1; obtain ⟨_, _, _, _, _, _, _, _, _, _, _, _, _, _, _, _⟩ := ce8_ BK102.1))
    go_ret; exact ⟨er_, bh_ GE101.1 GE102.1⟩
  ·
   rw [if_neg c4] at H; have c4b0 : (a0_1 == a1_1) = false := beq_eq_false_iff_ne.mpr c4; have c4b1 : (a0_1 != a1_1) = true := bne_iff_ne.mpr c4; obtain rfl := Option.some.inj H; go_enter Try.func24, Try.ntmps24; go_wp2_with (first | ((with_reducible refine gate_dst (N := 2) rfl ?_); refine be_ 2 (cs := #[.int .i64 a0_0, .int .i64 a0_1, .int .i64 a0_2, .int .i64 a0_3, .int .i64 a0_4, .int .i64 a0_5, .int .i64 a0_6, .int .i64 a0_7]) (t := 50) ?_; intro gb101 hg w46 hbox hb; have n_ := bx_ hg hbox hb; clear HB; obtain ⟨HB, BK101, GW101, GE101⟩ := n_; clear hb hbox hg) | ((with_reducible refine gate_dst (N := 3) rfl ?_); refine be_ 3 (cs := #[.int .i64 a1_0, .int .i64 a1_1, .int .i64 a1_2, .int .i64 a1_3, .int .i64 a1_4, .int .i64 a1_5, .int .i64 a1_6, .int .i64 a1_7]) (t := 50) ?_; intro gb102 hg w47 hbox hb; have n_ := bz_ hg hbox hb BK101.1 GE101.1; clear BK101 HB; obtain ⟨BK101, HB, BK102, GW102, GE102, NB101_102, NB102_101⟩ := n_; clear hb hbox hg; have hnb48 := NB101_102.1; have hnc48 := NB102_101.1; obtain ⟨_, _, _, _, _, _, _, _, _, _, _, _, _, _, _, _⟩ := ce8_ BK101.1; obtain ⟨_, _, _, _, _, _, _, _, _, _, _, _, _, _, _, _⟩ := ce8_ BK102.1))
   go_ret; exact ⟨er_, bh_ GE101.1 GE102.1⟩
 ·
  rw [if_neg c3] at H; have c3b0 : (a0_0 == a1_0) = false := beq_eq_false_iff_ne.mpr c3; have c3b1 : (a0_0 != a1_0) = true := bne_iff_ne.mpr c3; obtain rfl := Option.some.inj H; go_enter Try.func24, Try.ntmps24; go_wp2_with (first | ((with_reducible refine gate_dst (N := 2) rfl ?_); refine be_ 2 (cs := #[.int .i64 a0_0, .int .i64 a0_1, .int .i64 a0_2, .int .i64 a0_3, .int .i64 a0_4, .int .i64 a0_5, .int .i64 a0_6, .int .i64 a0_7]) (t := 50) ?_; intro gb101 hg w51 hbox hb; have n_ := bx_ hg hbox hb; clear HB; obtain ⟨HB, BK101, GW101, GE101⟩ := n_; clear hb hbox hg) | ((with_reducible refine gate_dst (N := 3) rfl ?_); refine be_ 3 (cs := #[.int .i64 a1_0, .int .i64 a1_1, .int .i64 a1_2, .int .i64 a1_3, .int .i64 a1_4, .int .i64 a1_5, .int .i64 a1_6, .int .i64 a1_7]) (t := 50) ?_; intro gb102 hg w52 hbox hb; have n_ := bz_ hg hbox hb BK101.1 GE101.1; clear BK101 HB; obtain ⟨BK101, HB, BK102, GW102, GE102, NB101_102, NB102_101⟩ := n_; clear hb hbox hg; have hnb53 := NB101_102.1; have hnc53 := NB102_101.1; obtain ⟨_, _, _, _, _, _, _, _, _, _, _, _, _, _, _, _⟩ := ce8_ BK101.1; obtain ⟨_, _, _, _, _, _, _, _, _, _, _, _, _, _, _, _⟩ := ce8_ BK102.1))
  go_ret; exact ⟨er_, bh_ GE101.1 GE102.1⟩
def laws_eqTradeS.l0 : Nat → List (S50) → List (S50) → Int → Option (Bool)
 | 0, _, _, _ => none
 | k + 1, x0, x1, x5 => if x5 < (x0.length : Int) then (if 0 ≤ x5 then (if x5 < (x1.length : Int) then ((laws_eqTrade.f (rd_T50 x0 x5).f0 (rd_T50 x0 x5).f1 (rd_T50 x0 x5).f2 (rd_T50 x0 x5).f3 (rd_T50 x0 x5).f4 (rd_T50 x0 x5).f5 (rd_T50 x0 x5).f6 (rd_T50 x0 x5).f7 (rd_T50 x1 x5).f0 (rd_T50 x1 x5).f1 (rd_T50 x1 x5).f2 (rd_T50 x1 x5).f3 (rd_T50 x1 x5).f4 (rd_T50 x1 x5).f5 (rd_T50 x1 x5).f6 (rd_T50 x1 x5).f7).bind fun t105 => (if t105 = true then (laws_eqTradeS.l0 k x0 x1 (wrap64 (x5 + 1))) else (some false))) else (none)) else (none)) else (some true)
def laws_eqTradeS.f (k : Nat) (l0 : List (S50)) (l1 : List (S50)) : Option (Bool) := if (l0.length : Int) = (l1.length : Int) then (laws_eqTradeS.l0 k l0 l1 0) else (some false)
def laws_eqTradeS.T6 : Bool × List (List Nat × List Nat) := (true, [([], []), ([], []), ([0, 1], [0, 1]), ([2], [2]), ([], []), ([], []), ([4, 5], [4, 5]), ([6], [6]), ([3, 7], [3, 7]), ([8], [8])])
def laws_eqTradeS.B6 : List Nat := [0, 0, 3, 7, 0, 0, 48, 112, 255, 511]
theorem laws_eqTradeS.tab6 : rtab .any (opsOf Try.f12 6) = laws_eqTradeS.T6 := by kernel_rfl
theorem laws_eqTradeS.bits6 : waitsOk laws_eqTradeS.T6.2 laws_eqTradeS.B6 = true := by kernel_rfl
theorem laws_eqTradeS.calls (k : Nat) (A0 : Option Addr) (c0 : Nat) (l0 : List (S50)) (A1 : Option Addr) (c1 : Nat) (l1 : List (S50)) (r : Bool) (w : World) (hr0 : Kd.C k50 w A0 l0.length l0) (hc0 : l0.length ≤ c0) (hr1 : Kd.C k50 w A1 l1.length l1) (hc1 : l1.length ≤ c1) (h : laws_eqTradeS.f k l0 l1 = some r) :
 Calls Try.prog 12 #[.slice A0 l0.length c0, .slice A1 l1.length c1] w fun e w' => e = .returned (.bool r) ∧ Below w.heap.size w w' := by
 have hu50 := Try.underlying50; have HR0 := Aside0.mk hr0; have HC0 := Aside0.mk hc0; clear hr0 hc0; have HR1 := Aside0.mk hr1; have HC1 := Aside0.mk hc1; clear hr1 hc1; have HB := Aside0.mk (Below.refl w.heap.size w); have H : (if (l0.length : Int) = (l1.length : Int) then (laws_eqTradeS.l0 k l0 l1 0) else (some false)) = some r := h; clear h
 by_cases c3 : (l0.length : Int) = (l1.length : Int)
 ·
  rw [if_pos c3] at H; have c3b0 : ((l0.length : Int) == (l1.length : Int)) = true := beq_iff_eq.mpr c3; have c3b1 : ((l0.length : Int) != (l1.length : Int)) = false := bne_eq_false_iff_eq.mpr c3; have c3b2 : (l0.length == l1.length) = true := by first | simpa using c3 | (simp at c3 ⊢; omega)
  clear c3; have H' := Aside0.mk H; clear H; go_enter Try.func12, Try.ntmps12; go_wp2; go_loopg [5] k (fun kq v5 w' => ∃ (x5_1 : Int), v5 = .int .i64 x5_1 ∧ Aside0 (laws_eqTradeS.l0 kq l0 l1 x5_1 = some r) ∧ Aside0 (kq ≤ k) ∧ Aside0 (Below w.heap.size w w'))
  case atStart => exact ⟨(0), (rs_), H', ⟨Nat.le_refl _⟩, ⟨bb_⟩⟩
  case round =>
   clear H'; (try clear c1); (try clear p2); (try clear c3b0); (try clear c3b1); (try clear c3b2); obtain ⟨x5_1, rfl, HA, HK1, HB⟩ := hrel
   cases gk with
   | zero => exact absurd HA.1 (by simp [laws_eqTradeS.l0])
   | succ k1 =>
    have H := HA.1; clear HA; simp only [laws_eqTradeS.l0] at H
    by_cases c4 : x5_1 < (l0.length : Int)
    ·
     rw [if_pos c4] at H; have c4b0 : decide (x5_1 < (l0.length : Int)) = true := decide_eq_true c4; clear c4
     by_cases c5 : 0 ≤ x5_1
     ·
      rw [if_pos c5] at H; have c5b0 : decide (0 ≤ x5_1) = true := decide_eq_true c5; clear c5
      by_cases c6 : x5_1 < (l1.length : Int)
      ·
       rw [if_pos c6] at H; have c6b0 : decide (x5_1 < (l1.length : Int)) = true := decide_eq_true c6; clear c6; replace H := Option.bind_eq_some_iff.mp H; obtain ⟨t105, A70, H⟩ := H; have A7 := Aside0.mk A70; clear A70
       by_cases c8 : t105 = true
       ·
        subst c8; have H' := Aside0.mk (Eq.trans (if_pos rfl).symm H); clear H; try go_wp2
        replace HB := Aside0.mk (below_drew1 HB.1); have p103 : 0 ≤ (x5_1 : Int) := od_; have q103 : x5_1 < (l0.length : Int) := od_; obtain ⟨ad103, e103, hx103_0, hx103_1, hx103_2, hx103_3, hx103_4, hx103_5, hx103_6, hx103_7⟩ := at_T50 HR0.1 x5_1 p103 q103; have hw103_7 := hx103_7; have hw103_6 := hx103_6; have hw103_5 := hx103_5; have hw103_4 := hx103_4; have hw103_3 := hx103_3; have hw103_2 := hx103_2; have hw103_1 := hx103_1; have hw103_0 := hx103_0; cases e103; have n_ := cl8_ HB.1 hx103_0 hx103_1 hx103_2 hx103_3 hx103_4 hx103_5 hx103_6 hx103_7; clear hx103_0 hx103_1 hx103_2 hx103_3 hx103_4 hx103_5 hx103_6 hx103_7; obtain ⟨hx103_0, hx103_1, hx103_2, hx103_3, hx103_4, hx103_5, hx103_6, hx103_7⟩ := n_; replace p103 := eq_true p103; replace q103 := eq_true q103; have p104 : 0 ≤ (x5_1 : Int) := od_; have q104 : x5_1 < (l1.length : Int) := od_; obtain ⟨ad104, e104, hx104_0, hx104_1, hx104_2, hx104_3, hx104_4, hx104_5, hx104_6, hx104_7⟩ := at_T50 HR1.1 x5_1 p104 q104; have hw104_7 := hx104_7; have hw104_6 := hx104_6; have hw104_5 := hx104_5; have hw104_4 := hx104_4; have hw104_3 := hx104_3; have hw104_2 := hx104_2; have hw104_1 := hx104_1; have hw104_0 := hx104_0; cases e104; have n_ := cl6_ HB.1 hx104_0 hx104_1 hx104_2 hx104_3 hx104_4 hx104_5; clear hx104_0 hx104_1 hx104_2 hx104_3 hx104_4 hx104_5; obtain ⟨hx104_0, hx104_1, hx104_2, hx104_3, hx104_4, hx104_5⟩ := n_
        have n_ := cl2_ HB.1 hx104_6 hx104_7; clear hx104_6 hx104_7; obtain ⟨hx104_6, hx104_7⟩ := n_; replace p104 := eq_true p104; replace q104 := eq_true q104
        refine start_ (n := 10) (S := fun w' => w'.cell? (ad103.add ((x5_1).toNat * 8)) = some (.int .i64 (rd_T50 l0 x5_1).f0) ∧ w'.cell? ⟨(ad103.add ((x5_1).toNat * 8)).block, (ad103.add ((x5_1).toNat * 8)).off + 1, none⟩ = some (.int .i64 (rd_T50 l0 x5_1).f1) ∧ w'.cell? ⟨(ad103.add ((x5_1).toNat * 8)).block, (ad103.add ((x5_1).toNat * 8)).off + 2, none⟩ = some (.int .i64 (rd_T50 l0 x5_1).f2) ∧ w'.cell? ⟨(ad103.add ((x5_1).toNat * 8)).block, (ad103.add ((x5_1).toNat * 8)).off + 3, none⟩ = some (.int .i64 (rd_T50 l0 x5_1).f3) ∧ w'.cell? ⟨(ad103.add ((x5_1).toNat * 8)).block, (ad103.add ((x5_1).toNat * 8)).off + 4, none⟩ = some (.int .i64 (rd_T50 l0 x5_1).f4) ∧ w'.cell? ⟨(ad103.add ((x5_1).toNat * 8)).block, (ad103.add ((x5_1).toNat * 8)).off + 5, none⟩ = some (.int .i64 (rd_T50 l0 x5_1).f5) ∧ w'.cell? ⟨(ad103.add ((x5_1).toNat * 8)).block, (ad103.add ((x5_1).toNat * 8)).off + 6, none⟩ = some (.int .i64 (rd_T50 l0 x5_1).f6) ∧ w'.cell? ⟨(ad103.add ((x5_1).toNat * 8)).block, (ad103.add ((x5_1).toNat * 8)).off + 7, none⟩ = some (.int .i64 (rd_T50 l0 x5_1).f7) ∧ w'.cell? (ad104.add ((x5_1).toNat * 8)) = some (.int .i64 (rd_T50 l1 x5_1).f0) ∧ w'.cell? ⟨(ad104.add ((x5_1).toNat * 8)).block, (ad104.add ((x5_1).toNat * 8)).off + 1, none⟩ = some (.int .i64 (rd_T50 l1 x5_1).f1) ∧ w'.cell? ⟨(ad104.add ((x5_1).toNat * 8)).block, (ad104.add ((x5_1).toNat * 8)).off + 2, none⟩ = some (.int .i64 (rd_T50 l1 x5_1).f2) ∧ w'.cell? ⟨(ad104.add ((x5_1).toNat * 8)).block, (ad104.add ((x5_1).toNat * 8)).off + 3, none⟩ = some (.int .i64 (rd_T50 l1 x5_1).f3) ∧ w'.cell? ⟨(ad104.add ((x5_1).toNat * 8)).block, (ad104.add ((x5_1).toNat * 8)).off + 4, none⟩ = some (.int .i64 (rd_T50 l1 x5_1).f4) ∧ w'.cell? ⟨(ad104.add ((x5_1).toNat * 8)).block, (ad104.add ((x5_1).toNat * 8)).off + 5, none⟩ = some (.int .i64 (rd_T50 l1 x5_1).f5) ∧ w'.cell? ⟨(ad104.add ((x5_1).toNat * 8)).block, (ad104.add ((x5_1).toNat * 8)).off + 6, none⟩ = some (.int .i64 (rd_T50 l1 x5_1).f6) ∧ w'.cell? ⟨(ad104.add ((x5_1).toNat * 8)).block, (ad104.add ((x5_1).toNat * 8)).off + 7, none⟩ = some (.int .i64 (rd_T50 l1 x5_1).f7)) (ds := []) (ba_ 10 0) kr_ rfl rfl ⟨(cl_ HB.1 hw103_0), (cl_ HB.1 hw103_1), (cl_ HB.1 hw103_2), (cl_ HB.1 hw103_3), (cl_ HB.1 hw103_4), (cl_ HB.1 hw103_5), (cl_ HB.1 hw103_6), (cl_ HB.1 hw103_7), (cl_ HB.1 hw104_0), (cl_ HB.1 hw104_1), (cl_ HB.1 hw104_2), (cl_ HB.1 hw104_3), (cl_ HB.1 hw104_4), (cl_ HB.1 hw104_5), (cl_ HB.1 hw104_6), (cl_ HB.1 hw104_7)⟩ (fun hHeld => ?_); refine with_tabW laws_eqTradeS.tab6 laws_eqTradeS.bits6 (fun HT_ HW_ => ?_)
        generalize wr.drew = w9 at HB hx103_0 hx103_1 hx103_2 hx103_3 hx103_4 hx103_5 hx103_6 hx103_7 hx104_0 hx104_1 hx104_2 hx104_3 hx104_4 hx104_5 hx104_6 hx104_7 hHeld ⊢
        refine pu_ 0 17 HT_.1 (ba_ 10 1) ?_; refine pu_ 1 18 HT_.1 (ba_ 10 3) ?_; refine pu_ 2 19 HT_.1 (ba_ 10 7) ?_; refine pu_ 4 21 HT_.1 (ba_ 10 23) ?_; refine pu_ 5 22 HT_.1 (ba_ 10 55) ?_; refine pu_ 6 23 HT_.1 (ba_ 10 119) ?_; refine ta_ 3 20 HT_.1 HW_.1 hHeld (ba_ 10 127) ?_; refine ta_ 7 24 HT_.1 HW_.1 hHeld (ba_ 10 255) ?_; refine one_ (i := 8) (N := some 25) (ba_ 10 511) rfl rfl (one_of HT_.1 kr_) (by decide) (fun K hK => ?_)
        refine goes_ Try.func24 kr_ rfl #[.agg #[.int .i64 (rd_T50 l0 x5_1).f0, .int .i64 (rd_T50 l0 x5_1).f1, .int .i64 (rd_T50 l0 x5_1).f2, .int .i64 (rd_T50 l0 x5_1).f3, .int .i64 (rd_T50 l0 x5_1).f4, .int .i64 (rd_T50 l0 x5_1).f5, .int .i64 (rd_T50 l0 x5_1).f6, .int .i64 (rd_T50 l0 x5_1).f7], .agg #[.int .i64 (rd_T50 l1 x5_1).f0, .int .i64 (rd_T50 l1 x5_1).f1, .int .i64 (rd_T50 l1 x5_1).f2, .int .i64 (rd_T50 l1 x5_1).f3, .int .i64 (rd_T50 l1 x5_1).f4, .int .i64 (rd_T50 l1 x5_1).f5, .int .i64 (rd_T50 l1 x5_1).f6, .int .i64 (rd_T50 l1 x5_1).f7]] (by rfl) rfl rfl (bc_) ?_
        with_reducible refine (laws_eqTrade.calls (rd_T50 l0 x5_1).f0 (rd_T50 l0 x5_1).f1 (rd_T50 l0 x5_1).f2 (rd_T50 l0 x5_1).f3 (rd_T50 l0 x5_1).f4 (rd_T50 l0 x5_1).f5 (rd_T50 l0 x5_1).f6 (rd_T50 l0 x5_1).f7 (rd_T50 l1 x5_1).f0 (rd_T50 l1 x5_1).f1 (rd_T50 l1 x5_1).f2 (rd_T50 l1 x5_1).f3 (rd_T50 l1 x5_1).f4 (rd_T50 l1 x5_1).f5 (rd_T50 l1 x5_1).f6 (rd_T50 l1 x5_1).f7 true _ A7.1).mono ?_
        rintro e w10 ⟨rfl, hb⟩; refine ⟨_, rfl, ?_⟩
        replace HB := Aside0.mk (below_step (bb_) hb)
        
        
        
        
        refine hK.out _ _ ⟨(cl_ HB.1 hw103_0), (cl_ HB.1 hw103_1), (cl_ HB.1 hw103_2), (cl_ HB.1 hw103_3), (cl_ HB.1 hw103_4), (cl_ HB.1 hw103_5), (cl_ HB.1 hw103_6), (cl_ HB.1 hw103_7), (cl_ HB.1 hw104_0), (cl_ HB.1 hw104_1), (cl_ HB.1 hw104_2), (cl_ HB.1 hw104_3), (cl_ HB.1 hw104_4), (cl_ HB.1 hw104_5), (cl_ HB.1 hw104_6), (cl_ HB.1 hw104_7)⟩ (fun hHeld => ?_)
        clear hK K; refine norm_ (a' := ?_) ?_ ?_
        rotate_left
        ·
         show Act.put _ (some 25) _ = _
         exact sp_
        refine pu_ 9 26 HT_.1 (ba_ 10 1023) ?_; refine done_ (done_of HT_.1 kr_) ?_
        try go_wp2
        go_roundg k1
        case measure => have := HK1.1; omega
        case rel => exact ⟨(wrap64 (x5_1 + 1)), (rs_), H', ⟨by have := HK1.1; omega⟩, ⟨bb_⟩⟩
       ·
        replace c8 := Bool.eq_false_iff.mpr c8; subst c8; replace H := Eq.trans (if_neg nf_).symm H; obtain rfl := Option.some.inj H; try go_wp2
        replace HB := Aside0.mk (below_drew1 HB.1); have p103 : 0 ≤ (x5_1 : Int) := od_; have q103 : x5_1 < (l0.length : Int) := od_; obtain ⟨ad103, e103, hx103_0, hx103_1, hx103_2, hx103_3, hx103_4, hx103_5, hx103_6, hx103_7⟩ := at_T50 HR0.1 x5_1 p103 q103; have hw103_7 := hx103_7; have hw103_6 := hx103_6; have hw103_5 := hx103_5; have hw103_4 := hx103_4; have hw103_3 := hx103_3; have hw103_2 := hx103_2; have hw103_1 := hx103_1; have hw103_0 := hx103_0; cases e103; have n_ := cl8_ HB.1 hx103_0 hx103_1 hx103_2 hx103_3 hx103_4 hx103_5 hx103_6 hx103_7; clear hx103_0 hx103_1 hx103_2 hx103_3 hx103_4 hx103_5 hx103_6 hx103_7; obtain ⟨hx103_0, hx103_1, hx103_2, hx103_3, hx103_4, hx103_5, hx103_6, hx103_7⟩ := n_; replace p103 := eq_true p103; replace q103 := eq_true q103; have p104 : 0 ≤ (x5_1 : Int) := od_; have q104 : x5_1 < (l1.length : Int) := od_; obtain ⟨ad104, e104, hx104_0, hx104_1, hx104_2, hx104_3, hx104_4, hx104_5, hx104_6, hx104_7⟩ := at_T50 HR1.1 x5_1 p104 q104; have hw104_7 := hx104_7; have hw104_6 := hx104_6; have hw104_5 := hx104_5; have hw104_4 := hx104_4; have hw104_3 := hx104_3; have hw104_2 := hx104_2; have hw104_1 := hx104_1; have hw104_0 := hx104_0; cases e104; have n_ := cl6_ HB.1 hx104_0 hx104_1 hx104_2 hx104_3 hx104_4 hx104_5; clear hx104_0 hx104_1 hx104_2 hx104_3 hx104_4 hx104_5; obtain ⟨hx104_0, hx104_1, hx104_2, hx104_3, hx104_4, hx104_5⟩ := n_
        have n_ := cl2_ HB.1 hx104_6 hx104_7; clear hx104_6 hx104_7; obtain ⟨hx104_6, hx104_7⟩ := n_; replace p104 := eq_true p104; replace q104 := eq_true q104
        refine start_ (n := 10) (S := fun w' => w'.cell? (ad103.add ((x5_1).toNat * 8)) = some (.int .i64 (rd_T50 l0 x5_1).f0) ∧ w'.cell? ⟨(ad103.add ((x5_1).toNat * 8)).block, (ad103.add ((x5_1).toNat * 8)).off + 1, none⟩ = some (.int .i64 (rd_T50 l0 x5_1).f1) ∧ w'.cell? ⟨(ad103.add ((x5_1).toNat * 8)).block, (ad103.add ((x5_1).toNat * 8)).off + 2, none⟩ = some (.int .i64 (rd_T50 l0 x5_1).f2) ∧ w'.cell? ⟨(ad103.add ((x5_1).toNat * 8)).block, (ad103.add ((x5_1).toNat * 8)).off + 3, none⟩ = some (.int .i64 (rd_T50 l0 x5_1).f3) ∧ w'.cell? ⟨(ad103.add ((x5_1).toNat * 8)).block, (ad103.add ((x5_1).toNat * 8)).off + 4, none⟩ = some (.int .i64 (rd_T50 l0 x5_1).f4) ∧ w'.cell? ⟨(ad103.add ((x5_1).toNat * 8)).block, (ad103.add ((x5_1).toNat * 8)).off + 5, none⟩ = some (.int .i64 (rd_T50 l0 x5_1).f5) ∧ w'.cell? ⟨(ad103.add ((x5_1).toNat * 8)).block, (ad103.add ((x5_1).toNat * 8)).off + 6, none⟩ = some (.int .i64 (rd_T50 l0 x5_1).f6) ∧ w'.cell? ⟨(ad103.add ((x5_1).toNat * 8)).block, (ad103.add ((x5_1).toNat * 8)).off + 7, none⟩ = some (.int .i64 (rd_T50 l0 x5_1).f7) ∧ w'.cell? (ad104.add ((x5_1).toNat * 8)) = some (.int .i64 (rd_T50 l1 x5_1).f0) ∧ w'.cell? ⟨(ad104.add ((x5_1).toNat * 8)).block, (ad104.add ((x5_1).toNat * 8)).off + 1, none⟩ = some (.int .i64 (rd_T50 l1 x5_1).f1) ∧ w'.cell? ⟨(ad104.add ((x5_1).toNat * 8)).block, (ad104.add ((x5_1).toNat * 8)).off + 2, none⟩ = some (.int .i64 (rd_T50 l1 x5_1).f2) ∧ w'.cell? ⟨(ad104.add ((x5_1).toNat * 8)).block, (ad104.add ((x5_1).toNat * 8)).off + 3, none⟩ = some (.int .i64 (rd_T50 l1 x5_1).f3) ∧ w'.cell? ⟨(ad104.add ((x5_1).toNat * 8)).block, (ad104.add ((x5_1).toNat * 8)).off + 4, none⟩ = some (.int .i64 (rd_T50 l1 x5_1).f4) ∧ w'.cell? ⟨(ad104.add ((x5_1).toNat * 8)).block, (ad104.add ((x5_1).toNat * 8)).off + 5, none⟩ = some (.int .i64 (rd_T50 l1 x5_1).f5) ∧ w'.cell? ⟨(ad104.add ((x5_1).toNat * 8)).block, (ad104.add ((x5_1).toNat * 8)).off + 6, none⟩ = some (.int .i64 (rd_T50 l1 x5_1).f6) ∧ w'.cell? ⟨(ad104.add ((x5_1).toNat * 8)).block, (ad104.add ((x5_1).toNat * 8)).off + 7, none⟩ = some (.int .i64 (rd_T50 l1 x5_1).f7)) (ds := []) (ba_ 10 0) kr_ rfl rfl ⟨(cl_ HB.1 hw103_0), (cl_ HB.1 hw103_1), (cl_ HB.1 hw103_2), (cl_ HB.1 hw103_3), (cl_ HB.1 hw103_4), (cl_ HB.1 hw103_5), (cl_ HB.1 hw103_6), (cl_ HB.1 hw103_7), (cl_ HB.1 hw104_0), (cl_ HB.1 hw104_1), (cl_ HB.1 hw104_2), (cl_ HB.1 hw104_3), (cl_ HB.1 hw104_4), (cl_ HB.1 hw104_5), (cl_ HB.1 hw104_6), (cl_ HB.1 hw104_7)⟩ (fun hHeld => ?_); refine with_tabW laws_eqTradeS.tab6 laws_eqTradeS.bits6 (fun HT_ HW_ => ?_)
        generalize wr.drew = w11 at HB hx103_0 hx103_1 hx103_2 hx103_3 hx103_4 hx103_5 hx103_6 hx103_7 hx104_0 hx104_1 hx104_2 hx104_3 hx104_4 hx104_5 hx104_6 hx104_7 hHeld ⊢
        refine pu_ 0 17 HT_.1 (ba_ 10 1) ?_; refine pu_ 1 18 HT_.1 (ba_ 10 3) ?_; refine pu_ 2 19 HT_.1 (ba_ 10 7) ?_; refine pu_ 4 21 HT_.1 (ba_ 10 23) ?_; refine pu_ 5 22 HT_.1 (ba_ 10 55) ?_; refine pu_ 6 23 HT_.1 (ba_ 10 119) ?_; refine ta_ 3 20 HT_.1 HW_.1 hHeld (ba_ 10 127) ?_; refine ta_ 7 24 HT_.1 HW_.1 hHeld (ba_ 10 255) ?_; refine one_ (i := 8) (N := some 25) (ba_ 10 511) rfl rfl (one_of HT_.1 kr_) (by decide) (fun K hK => ?_)
        refine goes_ Try.func24 kr_ rfl #[.agg #[.int .i64 (rd_T50 l0 x5_1).f0, .int .i64 (rd_T50 l0 x5_1).f1, .int .i64 (rd_T50 l0 x5_1).f2, .int .i64 (rd_T50 l0 x5_1).f3, .int .i64 (rd_T50 l0 x5_1).f4, .int .i64 (rd_T50 l0 x5_1).f5, .int .i64 (rd_T50 l0 x5_1).f6, .int .i64 (rd_T50 l0 x5_1).f7], .agg #[.int .i64 (rd_T50 l1 x5_1).f0, .int .i64 (rd_T50 l1 x5_1).f1, .int .i64 (rd_T50 l1 x5_1).f2, .int .i64 (rd_T50 l1 x5_1).f3, .int .i64 (rd_T50 l1 x5_1).f4, .int .i64 (rd_T50 l1 x5_1).f5, .int .i64 (rd_T50 l1 x5_1).f6, .int .i64 (rd_T50 l1 x5_1).f7]] (by rfl) rfl rfl (bc_) ?_
        with_reducible refine (laws_eqTrade.calls (rd_T50 l0 x5_1).f0 (rd_T50 l0 x5_1).f1 (rd_T50 l0 x5_1).f2 (rd_T50 l0 x5_1).f3 (rd_T50 l0 x5_1).f4 (rd_T50 l0 x5_1).f5 (rd_T50 l0 x5_1).f6 (rd_T50 l0 x5_1).f7 (rd_T50 l1 x5_1).f0 (rd_T50 l1 x5_1).f1 (rd_T50 l1 x5_1).f2 (rd_T50 l1 x5_1).f3 (rd_T50 l1 x5_1).f4 (rd_T50 l1 x5_1).f5 (rd_T50 l1 x5_1).f6 (rd_T50 l1 x5_1).f7 false _ A7.1).mono ?_
        rintro e w12 ⟨rfl, hb⟩; refine ⟨_, rfl, ?_⟩
        replace HB := Aside0.mk (below_step (bb_) hb)
        
        
        
        
        refine hK.out _ _ ⟨(cl_ HB.1 hw103_0), (cl_ HB.1 hw103_1), (cl_ HB.1 hw103_2), (cl_ HB.1 hw103_3), (cl_ HB.1 hw103_4), (cl_ HB.1 hw103_5), (cl_ HB.1 hw103_6), (cl_ HB.1 hw103_7), (cl_ HB.1 hw104_0), (cl_ HB.1 hw104_1), (cl_ HB.1 hw104_2), (cl_ HB.1 hw104_3), (cl_ HB.1 hw104_4), (cl_ HB.1 hw104_5), (cl_ HB.1 hw104_6), (cl_ HB.1 hw104_7)⟩ (fun hHeld => ?_)
        clear hK K; refine norm_ (a' := ?_) ?_ ?_
        rotate_left
        ·
         show Act.put _ (some 25) _ = _
         exact sp_
        refine pu_ 9 26 HT_.1 (ba_ 10 1023) ?_; refine done_ (done_of HT_.1 kr_) ?_
        try go_wp2
        go_ret; exact ⟨er_, bb_⟩
      ·
       rw [if_neg c6] at H; exact absurd H (by simp)
     ·
      rw [if_neg c5] at H; exact absurd H (by simp)
    ·
     rw [if_neg c4] at H; have c4b0 : decide (x5_1 < (l0.length : Int)) = false := decide_eq_false c4; clear c4; obtain rfl := Option.some.inj H; go_wp2; go_ret; exact ⟨er_, bb_⟩
 ·
  rw [if_neg c3] at H; have c3b0 : ((l0.length : Int) == (l1.length : Int)) = false := beq_eq_false_iff_ne.mpr c3; have c3b1 : ((l0.length : Int) != (l1.length : Int)) = true := bne_iff_ne.mpr c3; have c3b2 : (l0.length == l1.length) = false := by first | simpa using c3 | (simp at c3 ⊢; omega)
  obtain rfl := Option.some.inj H; go_enter Try.func12, Try.ntmps12; go_wp2; go_ret; exact ⟨er_, bb_⟩
def laws_eqAccount.f (a0_0 : Int) (a0_1 : Int) (a1_0 : Int) (a1_1 : Int) : Option (Bool) := if a0_0 = a1_0 then (if a0_1 = a1_1 then (some true) else (some false)) else (some false)
theorem laws_eqAccount.calls (a0_0 : Int) (a0_1 : Int) (a1_0 : Int) (a1_1 : Int) (r : Bool) (w : World) (h : laws_eqAccount.f a0_0 a0_1 a1_0 a1_1 = some r) :
 Calls Try.prog 75 #[.agg #[.int .i64 a0_0, .int .i64 a0_1], .agg #[.int .i64 a1_0, .int .i64 a1_1]] w fun e w' => e = .returned (.bool r) ∧ Below w.heap.size w w' := by
 have hu88 := Try.underlying88; have HB := Aside0.mk (Below.refl w.heap.size w); have H : (if a0_0 = a1_0 then (if a0_1 = a1_1 then (some true) else (some false)) else (some false)) = some r := h; clear h
 by_cases c3 : a0_0 = a1_0
 ·
  rw [if_pos c3] at H; have c3b0 : (a0_0 == a1_0) = true := beq_iff_eq.mpr c3; have c3b1 : (a0_0 != a1_0) = false := bne_eq_false_iff_eq.mpr c3; clear c3
  by_cases c4 : a0_1 = a1_1
  ·
   rw [if_pos c4] at H; have c4b0 : (a0_1 == a1_1) = true := beq_iff_eq.mpr c4; have c4b1 : (a0_1 != a1_1) = false := bne_eq_false_iff_eq.mpr c4; clear c4; obtain rfl := Option.some.inj H; go_enter Try.func75, Try.ntmps75; go_wp2_with (first | ((with_reducible refine gate_dst (N := 2) rfl ?_); refine be_ 2 (cs := #[.int .i64 a0_0, .int .i64 a0_1]) (t := 88) ?_; intro gb106 hg w5 hbox hb; have n_ := bx_ hg hbox hb; clear HB; obtain ⟨HB, BK106, GW106, GE106⟩ := n_; clear hb hbox hg) | ((with_reducible refine gate_dst (N := 3) rfl ?_); refine be_ 3 (cs := #[.int .i64 a1_0, .int .i64 a1_1]) (t := 88) ?_; intro gb107 hg w6 hbox hb; have n_ := bz_ hg hbox hb BK106.1 GE106.1; clear BK106 HB; obtain ⟨BK106, HB, BK107, GW107, GE107, NB106_107, NB107_106⟩ := n_; clear hb hbox hg; have hnb7 := NB106_107.1; have hnc7 := NB107_106.1; obtain ⟨_, _, _, _⟩ := ce2_ BK106.1; obtain ⟨_, _, _, _⟩ := ce2_ BK107.1))
   go_ret; exact ⟨er_, bh_ GE106.1 GE107.1⟩
  ·
   rw [if_neg c4] at H; have c4b0 : (a0_1 == a1_1) = false := beq_eq_false_iff_ne.mpr c4; have c4b1 : (a0_1 != a1_1) = true := bne_iff_ne.mpr c4; obtain rfl := Option.some.inj H; go_enter Try.func75, Try.ntmps75; go_wp2_with (first | ((with_reducible refine gate_dst (N := 2) rfl ?_); refine be_ 2 (cs := #[.int .i64 a0_0, .int .i64 a0_1]) (t := 88) ?_; intro gb106 hg w10 hbox hb; have n_ := bx_ hg hbox hb; clear HB; obtain ⟨HB, BK106, GW106, GE106⟩ := n_; clear hb hbox hg) | ((with_reducible refine gate_dst (N := 3) rfl ?_); refine be_ 3 (cs := #[.int .i64 a1_0, .int .i64 a1_1]) (t := 88) ?_; intro gb107 hg w11 hbox hb; have n_ := bz_ hg hbox hb BK106.1 GE106.1; clear BK106 HB; obtain ⟨BK106, HB, BK107, GW107, GE107, NB106_107, NB107_106⟩ := n_; clear hb hbox hg; have hnb12 := NB106_107.1; have hnc12 := NB107_106.1; obtain ⟨_, _, _, _⟩ := ce2_ BK106.1; obtain ⟨_, _, _, _⟩ := ce2_ BK107.1))
   go_ret; exact ⟨er_, bh_ GE106.1 GE107.1⟩
 ·
  rw [if_neg c3] at H; have c3b0 : (a0_0 == a1_0) = false := beq_eq_false_iff_ne.mpr c3; have c3b1 : (a0_0 != a1_0) = true := bne_iff_ne.mpr c3; obtain rfl := Option.some.inj H; go_enter Try.func75, Try.ntmps75; go_wp2_with (first | ((with_reducible refine gate_dst (N := 2) rfl ?_); refine be_ 2 (cs := #[.int .i64 a0_0, .int .i64 a0_1]) (t := 88) ?_; intro gb106 hg w15 hbox hb; have n_ := bx_ hg hbox hb; clear HB; obtain ⟨HB, BK106, GW106, GE106⟩ := n_; clear hb hbox hg) | ((with_reducible refine gate_dst (N := 3) rfl ?_); refine be_ 3 (cs := #[.int .i64 a1_0, .int .i64 a1_1]) (t := 88) ?_; intro gb107 hg w16 hbox hb; have n_ := bz_ hg hbox hb BK106.1 GE106.1; clear BK106 HB; obtain ⟨BK106, HB, BK107, GW107, GE107, NB106_107, NB107_106⟩ := n_; clear hb hbox hg; have hnb17 := NB106_107.1; have hnc17 := NB107_106.1; obtain ⟨_, _, _, _⟩ := ce2_ BK106.1; obtain ⟨_, _, _, _⟩ := ce2_ BK107.1))
  go_ret; exact ⟨er_, bh_ GE106.1 GE107.1⟩
end Go.Proofs.Ytmfgajbkcnlkcaa.P
namespace Go.Proofs.Ytmfgajbkcnlkcaa
section
open Go Go.RowKit Go.Proofs.YtmfgajbkcnlkcaaW.PrintWords Go.Proofs.YtmfgajbkcnlkcaaW.PrintLast Go.Proofs.YtmfgajbkcnlkcaaW.PrintMore
theorem ce3_ {w : World} {g : Nat} {t : TypeId} {v0 v1 v2 : Value} (h : w.heap[g]? = some (.cells #[v0, v1, v2] t (0, 0))) : w.cell? ⟨g, 0, none⟩ = some v0 ∧ w.cell? ⟨g, 1, none⟩ = some v1 ∧ w.cell? ⟨g, 2, none⟩ = some v2 ∧ w.frozen? ⟨g, 0, none⟩ = false ∧ w.frozen? ⟨g, 1, none⟩ = false ∧ w.frozen? ⟨g, 2, none⟩ = false := ⟨(blk_cell h 0).trans rfl, (blk_cell h 1).trans rfl, (blk_cell h 2).trans rfl, blk_frozen h 0, blk_frozen h 1, blk_frozen h 2⟩
end
end Go.Proofs.Ytmfgajbkcnlkcaa
namespace Go.Proofs.Ytmfgajbkcnlkcaa.P
open Go.RowKit Go.Proofs.YtmfgajbkcnlkcaaW.PrintWords Go.Proofs.YtmfgajbkcnlkcaaW.PrintLast Go.Proofs.YtmfgajbkcnlkcaaW.PrintMore
attribute [local go_sem] max2_int min2_int max_two min_two max_three min_three max_four min_four   -- for this text's walks alone
set_option linter.unusedVariables false
set_option linter.unusedSimpArgs false
def laws_eqAccountS.l0 : Nat → List (S88) → List (S88) → Int → Option (Bool)
 | 0, _, _, _ => none
 | k + 1, x0, x1, x5 => if x5 < (x0.length : Int) then (if 0 ≤ x5 then (if x5 < (x1.length : Int) then ((laws_eqAccount.f (rd_T88 x0 x5).f0 (rd_T88 x0 x5).f1 (rd_T88 x1 x5).f0 (rd_T88 x1 x5).f1).bind fun t110 => (if t110 = true then (laws_eqAccountS.l0 k x0 x1 (wrap64 (x5 + 1))) else (some false))) else (none)) else (none)) else (some true)
def laws_eqAccountS.f (k : Nat) (l0 : List (S88)) (l1 : List (S88)) : Option (Bool) := if (l0.length : Int) = (l1.length : Int) then (laws_eqAccountS.l0 k l0 l1 0) else (some false)
def laws_eqAccountS.T6 : Bool × List (List Nat × List Nat) := (true, [([], []), ([], []), ([0, 1], [0, 1]), ([2], [2]), ([], []), ([], []), ([4, 5], [4, 5]), ([6], [6]), ([3, 7], [3, 7]), ([8], [8])])
def laws_eqAccountS.B6 : List Nat := [0, 0, 3, 7, 0, 0, 48, 112, 255, 511]
theorem laws_eqAccountS.tab6 : rtab .any (opsOf Try.f36 6) = laws_eqAccountS.T6 := by kernel_rfl
theorem laws_eqAccountS.bits6 : waitsOk laws_eqAccountS.T6.2 laws_eqAccountS.B6 = true := by kernel_rfl
theorem laws_eqAccountS.calls (k : Nat) (A0 : Option Addr) (c0 : Nat) (l0 : List (S88)) (A1 : Option Addr) (c1 : Nat) (l1 : List (S88)) (r : Bool) (w : World) (hr0 : Kd.C k88 w A0 l0.length l0) (hc0 : l0.length ≤ c0) (hr1 : Kd.C k88 w A1 l1.length l1) (hc1 : l1.length ≤ c1) (h : laws_eqAccountS.f k l0 l1 = some r) :
 Calls Try.prog 36 #[.slice A0 l0.length c0, .slice A1 l1.length c1] w fun e w' => e = .returned (.bool r) ∧ Below w.heap.size w w' := by
 have hu88 := Try.underlying88; have HR0 := Aside0.mk hr0; have HC0 := Aside0.mk hc0; clear hr0 hc0; have HR1 := Aside0.mk hr1; have HC1 := Aside0.mk hc1; clear hr1 hc1; have HB := Aside0.mk (Below.refl w.heap.size w); have H : (if (l0.length : Int) = (l1.length : Int) then (laws_eqAccountS.l0 k l0 l1 0) else (some false)) = some r := h; clear h
 by_cases c3 : (l0.length : Int) = (l1.length : Int)
 ·
  rw [if_pos c3] at H; have c3b0 : ((l0.length : Int) == (l1.length : Int)) = true := beq_iff_eq.mpr c3; have c3b1 : ((l0.length : Int) != (l1.length : Int)) = false := bne_eq_false_iff_eq.mpr c3; have c3b2 : (l0.length == l1.length) = true := by first | simpa using c3 | (simp at c3 ⊢; omega)
  clear c3; have H' := Aside0.mk H; clear H; go_enter Try.func36, Try.ntmps36; go_wp2; go_loopg [5] k (fun kq v5 w' => ∃ (x5_1 : Int), v5 = .int .i64 x5_1 ∧ Aside0 (laws_eqAccountS.l0 kq l0 l1 x5_1 = some r) ∧ Aside0 (kq ≤ k) ∧ Aside0 (Below w.heap.size w w'))
  case atStart => exact ⟨(0), (rs_), H', ⟨Nat.le_refl _⟩, ⟨bb_⟩⟩
  case round =>
   clear H'; (try clear c1); (try clear p2); (try clear c3b0); (try clear c3b1); (try clear c3b2); obtain ⟨x5_1, rfl, HA, HK1, HB⟩ := hrel
   cases gk with
   | zero => exact absurd HA.1 (by simp [laws_eqAccountS.l0])
   | succ k1 =>
    have H := HA.1; clear HA; simp only [laws_eqAccountS.l0] at H
    by_cases c4 : x5_1 < (l0.length : Int)
    ·
     rw [if_pos c4] at H; have c4b0 : decide (x5_1 < (l0.length : Int)) = true := decide_eq_true c4; clear c4
     by_cases c5 : 0 ≤ x5_1
     ·
      rw [if_pos c5] at H; have c5b0 : decide (0 ≤ x5_1) = true := decide_eq_true c5; clear c5
      by_cases c6 : x5_1 < (l1.length : Int)
      ·
       rw [if_pos c6] at H; have c6b0 : decide (x5_1 < (l1.length : Int)) = true := decide_eq_true c6; clear c6; replace H := Option.bind_eq_some_iff.mp H; obtain ⟨t110, A70, H⟩ := H; have A7 := Aside0.mk A70; clear A70
       by_cases c8 : t110 = true
       ·
        subst c8; have H' := Aside0.mk (Eq.trans (if_pos rfl).symm H); clear H; try go_wp2
        replace HB := Aside0.mk (below_drew1 HB.1); have p108 : 0 ≤ (x5_1 : Int) := od_; have q108 : x5_1 < (l0.length : Int) := od_; obtain ⟨ad108, e108, hx108_0, hx108_1⟩ := at_T88 HR0.1 x5_1 p108 q108; have hw108_1 := hx108_1; have hw108_0 := hx108_0; cases e108; have n_ := cl2_ HB.1 hx108_0 hx108_1; clear hx108_0 hx108_1; obtain ⟨hx108_0, hx108_1⟩ := n_; replace p108 := eq_true p108; replace q108 := eq_true q108; have p109 : 0 ≤ (x5_1 : Int) := od_; have q109 : x5_1 < (l1.length : Int) := od_; obtain ⟨ad109, e109, hx109_0, hx109_1⟩ := at_T88 HR1.1 x5_1 p109 q109; have hw109_1 := hx109_1; have hw109_0 := hx109_0; cases e109; have n_ := cl2_ HB.1 hx109_0 hx109_1; clear hx109_0 hx109_1; obtain ⟨hx109_0, hx109_1⟩ := n_; replace p109 := eq_true p109; replace q109 := eq_true q109; refine start_ (n := 10) (S := fun w' => w'.cell? (ad108.add ((x5_1).toNat * 2)) = some (.int .i64 (rd_T88 l0 x5_1).f0) ∧ w'.cell? ⟨(ad108.add ((x5_1).toNat * 2)).block, (ad108.add ((x5_1).toNat * 2)).off + 1, none⟩ = some (.int .i64 (rd_T88 l0 x5_1).f1) ∧ w'.cell? (ad109.add ((x5_1).toNat * 2)) = some (.int .i64 (rd_T88 l1 x5_1).f0) ∧ w'.cell? ⟨(ad109.add ((x5_1).toNat * 2)).block, (ad109.add ((x5_1).toNat * 2)).off + 1, none⟩ = some (.int .i64 (rd_T88 l1 x5_1).f1)) (ds := []) (ba_ 10 0) kr_ rfl rfl ⟨(cl_ HB.1 hw108_0), (cl_ HB.1 hw108_1), (cl_ HB.1 hw109_0), (cl_ HB.1 hw109_1)⟩ (fun hHeld => ?_); refine with_tabW laws_eqAccountS.tab6 laws_eqAccountS.bits6 (fun HT_ HW_ => ?_)
        generalize wr.drew = w9 at HB hx108_0 hx108_1 hx109_0 hx109_1 hHeld ⊢
        refine pu_ 0 17 HT_.1 (ba_ 10 1) ?_; refine pu_ 1 18 HT_.1 (ba_ 10 3) ?_; refine pu_ 2 19 HT_.1 (ba_ 10 7) ?_; refine pu_ 4 21 HT_.1 (ba_ 10 23) ?_; refine pu_ 5 22 HT_.1 (ba_ 10 55) ?_; refine pu_ 6 23 HT_.1 (ba_ 10 119) ?_; refine ta_ 3 20 HT_.1 HW_.1 hHeld (ba_ 10 127) ?_; refine ta_ 7 24 HT_.1 HW_.1 hHeld (ba_ 10 255) ?_; refine one_ (i := 8) (N := some 25) (ba_ 10 511) rfl rfl (one_of HT_.1 kr_) (by decide) (fun K hK => ?_)
        refine goes_ Try.func75 kr_ rfl #[.agg #[.int .i64 (rd_T88 l0 x5_1).f0, .int .i64 (rd_T88 l0 x5_1).f1], .agg #[.int .i64 (rd_T88 l1 x5_1).f0, .int .i64 (rd_T88 l1 x5_1).f1]] (by rfl) rfl rfl (bc_) ?_
        with_reducible refine (laws_eqAccount.calls (rd_T88 l0 x5_1).f0 (rd_T88 l0 x5_1).f1 (rd_T88 l1 x5_1).f0 (rd_T88 l1 x5_1).f1 true _ A7.1).mono ?_
        rintro e w10 ⟨rfl, hb⟩; refine ⟨_, rfl, ?_⟩
        replace HB := Aside0.mk (below_step (bb_) hb)
        
        
        
        
        refine hK.out _ _ ⟨(cl_ HB.1 hw108_0), (cl_ HB.1 hw108_1), (cl_ HB.1 hw109_0), (cl_ HB.1 hw109_1)⟩ (fun hHeld => ?_)
        clear hK K; refine norm_ (a' := ?_) ?_ ?_
        rotate_left
        ·
         show Act.put _ (some 25) _ = _
         exact sp_
        refine pu_ 9 26 HT_.1 (ba_ 10 1023) ?_; refine done_ (done_of HT_.1 kr_) ?_
        try go_wp2
        go_roundg k1
        case measure => have := HK1.1; omega
        case rel => exact ⟨(wrap64 (x5_1 + 1)), (rs_), H', ⟨by have := HK1.1; omega⟩, ⟨bb_⟩⟩
       ·
        replace c8 := Bool.eq_false_iff.mpr c8; subst c8; replace H := Eq.trans (if_neg nf_).symm H; obtain rfl := Option.some.inj H; try go_wp2
        replace HB := Aside0.mk (below_drew1 HB.1); have p108 : 0 ≤ (x5_1 : Int) := od_; have q108 : x5_1 < (l0.length : Int) := od_; obtain ⟨ad108, e108, hx108_0, hx108_1⟩ := at_T88 HR0.1 x5_1 p108 q108; have hw108_1 := hx108_1; have hw108_0 := hx108_0; cases e108; have n_ := cl2_ HB.1 hx108_0 hx108_1; clear hx108_0 hx108_1; obtain ⟨hx108_0, hx108_1⟩ := n_; replace p108 := eq_true p108; replace q108 := eq_true q108; have p109 : 0 ≤ (x5_1 : Int) := od_; have q109 : x5_1 < (l1.length : Int) := od_; obtain ⟨ad109, e109, hx109_0, hx109_1⟩ := at_T88 HR1.1 x5_1 p109 q109; have hw109_1 := hx109_1; have hw109_0 := hx109_0; cases e109; have n_ := cl2_ HB.1 hx109_0 hx109_1; clear hx109_0 hx109_1; obtain ⟨hx109_0, hx109_1⟩ := n_; replace p109 := eq_true p109; replace q109 := eq_true q109; refine start_ (n := 10) (S := fun w' => w'.cell? (ad108.add ((x5_1).toNat * 2)) = some (.int .i64 (rd_T88 l0 x5_1).f0) ∧ w'.cell? ⟨(ad108.add ((x5_1).toNat * 2)).block, (ad108.add ((x5_1).toNat * 2)).off + 1, none⟩ = some (.int .i64 (rd_T88 l0 x5_1).f1) ∧ w'.cell? (ad109.add ((x5_1).toNat * 2)) = some (.int .i64 (rd_T88 l1 x5_1).f0) ∧ w'.cell? ⟨(ad109.add ((x5_1).toNat * 2)).block, (ad109.add ((x5_1).toNat * 2)).off + 1, none⟩ = some (.int .i64 (rd_T88 l1 x5_1).f1)) (ds := []) (ba_ 10 0) kr_ rfl rfl ⟨(cl_ HB.1 hw108_0), (cl_ HB.1 hw108_1), (cl_ HB.1 hw109_0), (cl_ HB.1 hw109_1)⟩ (fun hHeld => ?_); refine with_tabW laws_eqAccountS.tab6 laws_eqAccountS.bits6 (fun HT_ HW_ => ?_)
        generalize wr.drew = w11 at HB hx108_0 hx108_1 hx109_0 hx109_1 hHeld ⊢
        refine pu_ 0 17 HT_.1 (ba_ 10 1) ?_; refine pu_ 1 18 HT_.1 (ba_ 10 3) ?_; refine pu_ 2 19 HT_.1 (ba_ 10 7) ?_; refine pu_ 4 21 HT_.1 (ba_ 10 23) ?_; refine pu_ 5 22 HT_.1 (ba_ 10 55) ?_; refine pu_ 6 23 HT_.1 (ba_ 10 119) ?_; refine ta_ 3 20 HT_.1 HW_.1 hHeld (ba_ 10 127) ?_; refine ta_ 7 24 HT_.1 HW_.1 hHeld (ba_ 10 255) ?_; refine one_ (i := 8) (N := some 25) (ba_ 10 511) rfl rfl (one_of HT_.1 kr_) (by decide) (fun K hK => ?_)
        refine goes_ Try.func75 kr_ rfl #[.agg #[.int .i64 (rd_T88 l0 x5_1).f0, .int .i64 (rd_T88 l0 x5_1).f1], .agg #[.int .i64 (rd_T88 l1 x5_1).f0, .int .i64 (rd_T88 l1 x5_1).f1]] (by rfl) rfl rfl (bc_) ?_
        with_reducible refine (laws_eqAccount.calls (rd_T88 l0 x5_1).f0 (rd_T88 l0 x5_1).f1 (rd_T88 l1 x5_1).f0 (rd_T88 l1 x5_1).f1 false _ A7.1).mono ?_
        rintro e w12 ⟨rfl, hb⟩; refine ⟨_, rfl, ?_⟩
        replace HB := Aside0.mk (below_step (bb_) hb)
        
        
        
        
        refine hK.out _ _ ⟨(cl_ HB.1 hw108_0), (cl_ HB.1 hw108_1), (cl_ HB.1 hw109_0), (cl_ HB.1 hw109_1)⟩ (fun hHeld => ?_)
        clear hK K; refine norm_ (a' := ?_) ?_ ?_
        rotate_left
        ·
         show Act.put _ (some 25) _ = _
         exact sp_
        refine pu_ 9 26 HT_.1 (ba_ 10 1023) ?_; refine done_ (done_of HT_.1 kr_) ?_
        try go_wp2
        go_ret; exact ⟨er_, bb_⟩
      ·
       rw [if_neg c6] at H; exact absurd H (by simp)
     ·
      rw [if_neg c5] at H; exact absurd H (by simp)
    ·
     rw [if_neg c4] at H; have c4b0 : decide (x5_1 < (l0.length : Int)) = false := decide_eq_false c4; clear c4; obtain rfl := Option.some.inj H; go_wp2; go_ret; exact ⟨er_, bb_⟩
 ·
  rw [if_neg c3] at H; have c3b0 : ((l0.length : Int) == (l1.length : Int)) = false := beq_eq_false_iff_ne.mpr c3; have c3b1 : ((l0.length : Int) != (l1.length : Int)) = true := bne_iff_ne.mpr c3; have c3b2 : (l0.length == l1.length) = false := by first | simpa using c3 | (simp at c3 ⊢; omega)
  obtain rfl := Option.some.inj H; go_enter Try.func36, Try.ntmps36; go_wp2; go_ret; exact ⟨er_, bb_⟩
def laws_eqInstr.f (a0_0 : Int) (a0_1 : Int) (a1_0 : Int) (a1_1 : Int) : Option (Bool) := if a0_0 = a1_0 then (if a0_1 = a1_1 then (some true) else (some false)) else (some false)
theorem laws_eqInstr.calls (a0_0 : Int) (a0_1 : Int) (a1_0 : Int) (a1_1 : Int) (r : Bool) (w : World) (h : laws_eqInstr.f a0_0 a0_1 a1_0 a1_1 = some r) :
 Calls Try.prog 76 #[.agg #[.int .i64 a0_0, .int .i64 a0_1], .agg #[.int .i64 a1_0, .int .i64 a1_1]] w fun e w' => e = .returned (.bool r) ∧ Below w.heap.size w w' := by
 have hu90 := Try.underlying90; have HB := Aside0.mk (Below.refl w.heap.size w); have H : (if a0_0 = a1_0 then (if a0_1 = a1_1 then (some true) else (some false)) else (some false)) = some r := h; clear h
 by_cases c3 : a0_0 = a1_0
 ·
  rw [if_pos c3] at H; have c3b0 : (a0_0 == a1_0) = true := beq_iff_eq.mpr c3; have c3b1 : (a0_0 != a1_0) = false := bne_eq_false_iff_eq.mpr c3; clear c3
  by_cases c4 : a0_1 = a1_1
  ·
   rw [if_pos c4] at H; have c4b0 : (a0_1 == a1_1) = true := beq_iff_eq.mpr c4; have c4b1 : (a0_1 != a1_1) = false := bne_eq_false_iff_eq.mpr c4; clear c4; obtain rfl := Option.some.inj H; go_enter Try.func76, Try.ntmps76; go_wp2_with (first | ((with_reducible refine gate_dst (N := 2) rfl ?_); refine be_ 2 (cs := #[.int .i64 a0_0, .int .i64 a0_1]) (t := 90) ?_; intro gb111 hg w5 hbox hb; have n_ := bx_ hg hbox hb; clear HB; obtain ⟨HB, BK111, GW111, GE111⟩ := n_; clear hb hbox hg) | ((with_reducible refine gate_dst (N := 3) rfl ?_); refine be_ 3 (cs := #[.int .i64 a1_0, .int .i64 a1_1]) (t := 90) ?_; intro gb112 hg w6 hbox hb; have n_ := bz_ hg hbox hb BK111.1 GE111.1; clear BK111 HB; obtain ⟨BK111, HB, BK112, GW112, GE112, NB111_112, NB112_111⟩ := n_; clear hb hbox hg; have hnb7 := NB111_112.1; have hnc7 := NB112_111.1; obtain ⟨_, _, _, _⟩ := ce2_ BK111.1; obtain ⟨_, _, _, _⟩ := ce2_ BK112.1))
   go_ret; exact ⟨er_, bh_ GE111.1 GE112.1⟩
  ·
   rw [if_neg c4] at H; have c4b0 : (a0_1 == a1_1) = false := beq_eq_false_iff_ne.mpr c4; have c4b1 : (a0_1 != a1_1) = true := bne_iff_ne.mpr c4; obtain rfl := Option.some.inj H; go_enter Try.func76, Try.ntmps76; go_wp2_with (first | ((with_reducible refine gate_dst (N := 2) rfl ?_); refine be_ 2 (cs := #[.int .i64 a0_0, .int .i64 a0_1]) (t := 90) ?_; intro gb111 hg w10 hbox hb; have n_ := bx_ hg hbox hb; clear HB; obtain ⟨HB, BK111, GW111, GE111⟩ := n_; clear hb hbox hg) | ((with_reducible refine gate_dst (N := 3) rfl ?_); refine be_ 3 (cs := #[.int .i64 a1_0, .int .i64 a1_1]) (t := 90) ?_; intro gb112 hg w11 hbox hb; have n_ := bz_ hg hbox hb BK111.1 GE111.1; clear BK111 HB; obtain ⟨BK111, HB, BK112, GW112, GE112, NB111_112, NB112_111⟩ := n_; clear hb hbox hg; have hnb12 := NB111_112.1; have hnc12 := NB112_111.1; obtain ⟨_, _, _, _⟩ := ce2_ BK111.1; obtain ⟨_, _, _, _⟩ := ce2_ BK112.1))
   go_ret; exact ⟨er_, bh_ GE111.1 GE112.1⟩
 ·
  rw [if_neg c3] at H; have c3b0 : (a0_0 == a1_0) = false := beq_eq_false_iff_ne.mpr c3; have c3b1 : (a0_0 != a1_0) = true := bne_iff_ne.mpr c3; obtain rfl := Option.some.inj H; go_enter Try.func76, Try.ntmps76; go_wp2_with (first | ((with_reducible refine gate_dst (N := 2) rfl ?_); refine be_ 2 (cs := #[.int .i64 a0_0, .int .i64 a0_1]) (t := 90) ?_; intro gb111 hg w15 hbox hb; have n_ := bx_ hg hbox hb; clear HB; obtain ⟨HB, BK111, GW111, GE111⟩ := n_; clear hb hbox hg) | ((with_reducible refine gate_dst (N := 3) rfl ?_); refine be_ 3 (cs := #[.int .i64 a1_0, .int .i64 a1_1]) (t := 90) ?_; intro gb112 hg w16 hbox hb; have n_ := bz_ hg hbox hb BK111.1 GE111.1; clear BK111 HB; obtain ⟨BK111, HB, BK112, GW112, GE112, NB111_112, NB112_111⟩ := n_; clear hb hbox hg; have hnb17 := NB111_112.1; have hnc17 := NB112_111.1; obtain ⟨_, _, _, _⟩ := ce2_ BK111.1; obtain ⟨_, _, _, _⟩ := ce2_ BK112.1))
  go_ret; exact ⟨er_, bh_ GE111.1 GE112.1⟩
def laws_eqInstrS.l0 : Nat → List (S90) → List (S90) → Int → Option (Bool)
 | 0, _, _, _ => none
 | k + 1, x0, x1, x5 => if x5 < (x0.length : Int) then (if 0 ≤ x5 then (if x5 < (x1.length : Int) then ((laws_eqInstr.f (rd_T90 x0 x5).f0 (rd_T90 x0 x5).f1 (rd_T90 x1 x5).f0 (rd_T90 x1 x5).f1).bind fun t115 => (if t115 = true then (laws_eqInstrS.l0 k x0 x1 (wrap64 (x5 + 1))) else (some false))) else (none)) else (none)) else (some true)
def laws_eqInstrS.f (k : Nat) (l0 : List (S90)) (l1 : List (S90)) : Option (Bool) := if (l0.length : Int) = (l1.length : Int) then (laws_eqInstrS.l0 k l0 l1 0) else (some false)
def laws_eqInstrS.T6 : Bool × List (List Nat × List Nat) := (true, [([], []), ([], []), ([0, 1], [0, 1]), ([2], [2]), ([], []), ([], []), ([4, 5], [4, 5]), ([6], [6]), ([3, 7], [3, 7]), ([8], [8])])
def laws_eqInstrS.B6 : List Nat := [0, 0, 3, 7, 0, 0, 48, 112, 255, 511]
theorem laws_eqInstrS.tab6 : rtab .any (opsOf Try.f37 6) = laws_eqInstrS.T6 := by kernel_rfl
theorem laws_eqInstrS.bits6 : waitsOk laws_eqInstrS.T6.2 laws_eqInstrS.B6 = true := by kernel_rfl
theorem laws_eqInstrS.calls (k : Nat) (A0 : Option Addr) (c0 : Nat) (l0 : List (S90)) (A1 : Option Addr) (c1 : Nat) (l1 : List (S90)) (r : Bool) (w : World) (hr0 : Kd.C k90 w A0 l0.length l0) (hc0 : l0.length ≤ c0) (hr1 : Kd.C k90 w A1 l1.length l1) (hc1 : l1.length ≤ c1) (h : laws_eqInstrS.f k l0 l1 = some r) :
 Calls Try.prog 37 #[.slice A0 l0.length c0, .slice A1 l1.length c1] w fun e w' => e = .returned (.bool r) ∧ Below w.heap.size w w' := by
 have hu90 := Try.underlying90; have HR0 := Aside0.mk hr0; have HC0 := Aside0.mk hc0; clear hr0 hc0; have HR1 := Aside0.mk hr1; have HC1 := Aside0.mk hc1; clear hr1 hc1; have HB := Aside0.mk (Below.refl w.heap.size w); have H : (if (l0.length : Int) = (l1.length : Int) then (laws_eqInstrS.l0 k l0 l1 0) else (some false)) = some r := h; clear h
 by_cases c3 : (l0.length : Int) = (l1.length : Int)
 ·
  rw [if_pos c3] at H; have c3b0 : ((l0.length : Int) == (l1.length : Int)) = true := beq_iff_eq.mpr c3; have c3b1 : ((l0.length : Int) != (l1.length : Int)) = false := bne_eq_false_iff_eq.mpr c3; have c3b2 : (l0.length == l1.length) = true := by first | simpa using c3 | (simp at c3 ⊢; omega)
  clear c3; have H' := Aside0.mk H; clear H; go_enter Try.func37, Try.ntmps37; go_wp2; go_loopg [5] k (fun kq v5 w' => ∃ (x5_1 : Int), v5 = .int .i64 x5_1 ∧ Aside0 (laws_eqInstrS.l0 kq l0 l1 x5_1 = some r) ∧ Aside0 (kq ≤ k) ∧ Aside0 (Below w.heap.size w w'))
  case atStart => exact ⟨(0), (rs_), H', ⟨Nat.le_refl _⟩, ⟨bb_⟩⟩
  case round =>
   clear H'; (try clear c1); (try clear p2); (try clear c3b0); (try clear c3b1); (try clear c3b2); obtain ⟨x5_1, rfl, HA, HK1, HB⟩ := hrel
   cases gk with
   | zero => exact absurd HA.1 (by simp [laws_eqInstrS.l0])
   | succ k1 =>
    have H := HA.1; clear HA; simp only [laws_eqInstrS.l0] at H
    by_cases c4 : x5_1 < (l0.length : Int)
    ·
     rw [if_pos c4] at H; have c4b0 : decide (x5_1 < (l0.length : Int)) = true := decide_eq_true c4; clear c4
     by_cases c5 : 0 ≤ x5_1
     ·
      rw [if_pos c5] at H; have c5b0 : decide (0 ≤ x5_1) = true := decide_eq_true c5; clear c5
      by_cases c6 : x5_1 < (l1.length : Int)
      ·
       rw [if_pos c6] at H; have c6b0 : decide (x5_1 < (l1.length : Int)) = true := decide_eq_true c6; clear c6; replace H := Option.bind_eq_some_iff.mp H; obtain ⟨t115, A70, H⟩ := H; have A7 := Aside0.mk A70; clear A70
       by_cases c8 : t115 = true
       ·
        subst c8; have H' := Aside0.mk (Eq.trans (if_pos rfl).symm H); clear H; try go_wp2
        replace HB := Aside0.mk (below_drew1 HB.1); have p113 : 0 ≤ (x5_1 : Int) := od_; have q113 : x5_1 < (l0.length : Int) := od_; obtain ⟨ad113, e113, hx113_0, hx113_1⟩ := at_T90 HR0.1 x5_1 p113 q113; have hw113_1 := hx113_1; have hw113_0 := hx113_0; cases e113; have n_ := cl2_ HB.1 hx113_0 hx113_1; clear hx113_0 hx113_1; obtain ⟨hx113_0, hx113_1⟩ := n_; replace p113 := eq_true p113; replace q113 := eq_true q113; have p114 : 0 ≤ (x5_1 : Int) := od_; have q114 : x5_1 < (l1.length : Int) := od_; obtain ⟨ad114, e114, hx114_0, hx114_1⟩ := at_T90 HR1.1 x5_1 p114 q114; have hw114_1 := hx114_1; have hw114_0 := hx114_0; cases e114; have n_ := cl2_ HB.1 hx114_0 hx114_1; clear hx114_0 hx114_1; obtain ⟨hx114_0, hx114_1⟩ := n_; replace p114 := eq_true p114; replace q114 := eq_true q114; refine start_ (n := 10) (S := fun w' => w'.cell? (ad113.add ((x5_1).toNat * 2)) = some (.int .i64 (rd_T90 l0 x5_1).f0) ∧ w'.cell? ⟨(ad113.add ((x5_1).toNat * 2)).block, (ad113.add ((x5_1).toNat * 2)).off + 1, none⟩ = some (.int .i64 (rd_T90 l0 x5_1).f1) ∧ w'.cell? (ad114.add ((x5_1).toNat * 2)) = some (.int .i64 (rd_T90 l1 x5_1).f0) ∧ w'.cell? ⟨(ad114.add ((x5_1).toNat * 2)).block, (ad114.add ((x5_1).toNat * 2)).off + 1, none⟩ = some (.int .i64 (rd_T90 l1 x5_1).f1)) (ds := []) (ba_ 10 0) kr_ rfl rfl ⟨(cl_ HB.1 hw113_0), (cl_ HB.1 hw113_1), (cl_ HB.1 hw114_0), (cl_ HB.1 hw114_1)⟩ (fun hHeld => ?_); refine with_tabW laws_eqInstrS.tab6 laws_eqInstrS.bits6 (fun HT_ HW_ => ?_)
        generalize wr.drew = w9 at HB hx113_0 hx113_1 hx114_0 hx114_1 hHeld ⊢
        refine pu_ 0 17 HT_.1 (ba_ 10 1) ?_; refine pu_ 1 18 HT_.1 (ba_ 10 3) ?_; refine pu_ 2 19 HT_.1 (ba_ 10 7) ?_; refine pu_ 4 21 HT_.1 (ba_ 10 23) ?_; refine pu_ 5 22 HT_.1 (ba_ 10 55) ?_; refine pu_ 6 23 HT_.1 (ba_ 10 119) ?_; refine ta_ 3 20 HT_.1 HW_.1 hHeld (ba_ 10 127) ?_; refine ta_ 7 24 HT_.1 HW_.1 hHeld (ba_ 10 255) ?_; refine one_ (i := 8) (N := some 25) (ba_ 10 511) rfl rfl (one_of HT_.1 kr_) (by decide) (fun K hK => ?_)
        refine goes_ Try.func76 kr_ rfl #[.agg #[.int .i64 (rd_T90 l0 x5_1).f0, .int .i64 (rd_T90 l0 x5_1).f1], .agg #[.int .i64 (rd_T90 l1 x5_1).f0, .int .i64 (rd_T90 l1 x5_1).f1]] (by rfl) rfl rfl (bc_) ?_
        with_reducible refine (laws_eqInstr.calls (rd_T90 l0 x5_1).f0 (rd_T90 l0 x5_1).f1 (rd_T90 l1 x5_1).f0 (rd_T90 l1 x5_1).f1 true _ A7.1).mono ?_
        rintro e w10 ⟨rfl, hb⟩; refine ⟨_, rfl, ?_⟩
        replace HB := Aside0.mk (below_step (bb_) hb)
        
        
        
        
        refine hK.out _ _ ⟨(cl_ HB.1 hw113_0), (cl_ HB.1 hw113_1), (cl_ HB.1 hw114_0), (cl_ HB.1 hw114_1)⟩ (fun hHeld => ?_)
        clear hK K; refine norm_ (a' := ?_) ?_ ?_
        rotate_left
        ·
         show Act.put _ (some 25) _ = _
         exact sp_
        refine pu_ 9 26 HT_.1 (ba_ 10 1023) ?_; refine done_ (done_of HT_.1 kr_) ?_
        try go_wp2
        go_roundg k1
        case measure => have := HK1.1; omega
        case rel => exact ⟨(wrap64 (x5_1 + 1)), (rs_), H', ⟨by have := HK1.1; omega⟩, ⟨bb_⟩⟩
       ·
        replace c8 := Bool.eq_false_iff.mpr c8; subst c8; replace H := Eq.trans (if_neg nf_).symm H; obtain rfl := Option.some.inj H; try go_wp2
        replace HB := Aside0.mk (below_drew1 HB.1); have p113 : 0 ≤ (x5_1 : Int) := od_; have q113 : x5_1 < (l0.length : Int) := od_; obtain ⟨ad113, e113, hx113_0, hx113_1⟩ := at_T90 HR0.1 x5_1 p113 q113; have hw113_1 := hx113_1; have hw113_0 := hx113_0; cases e113; have n_ := cl2_ HB.1 hx113_0 hx113_1; clear hx113_0 hx113_1; obtain ⟨hx113_0, hx113_1⟩ := n_; replace p113 := eq_true p113; replace q113 := eq_true q113; have p114 : 0 ≤ (x5_1 : Int) := od_; have q114 : x5_1 < (l1.length : Int) := od_; obtain ⟨ad114, e114, hx114_0, hx114_1⟩ := at_T90 HR1.1 x5_1 p114 q114; have hw114_1 := hx114_1; have hw114_0 := hx114_0; cases e114; have n_ := cl2_ HB.1 hx114_0 hx114_1; clear hx114_0 hx114_1; obtain ⟨hx114_0, hx114_1⟩ := n_; replace p114 := eq_true p114; replace q114 := eq_true q114; refine start_ (n := 10) (S := fun w' => w'.cell? (ad113.add ((x5_1).toNat * 2)) = some (.int .i64 (rd_T90 l0 x5_1).f0) ∧ w'.cell? ⟨(ad113.add ((x5_1).toNat * 2)).block, (ad113.add ((x5_1).toNat * 2)).off + 1, none⟩ = some (.int .i64 (rd_T90 l0 x5_1).f1) ∧ w'.cell? (ad114.add ((x5_1).toNat * 2)) = some (.int .i64 (rd_T90 l1 x5_1).f0) ∧ w'.cell? ⟨(ad114.add ((x5_1).toNat * 2)).block, (ad114.add ((x5_1).toNat * 2)).off + 1, none⟩ = some (.int .i64 (rd_T90 l1 x5_1).f1)) (ds := []) (ba_ 10 0) kr_ rfl rfl ⟨(cl_ HB.1 hw113_0), (cl_ HB.1 hw113_1), (cl_ HB.1 hw114_0), (cl_ HB.1 hw114_1)⟩ (fun hHeld => ?_); refine with_tabW laws_eqInstrS.tab6 laws_eqInstrS.bits6 (fun HT_ HW_ => ?_)
        generalize wr.drew = w11 at HB hx113_0 hx113_1 hx114_0 hx114_1 hHeld ⊢
        refine pu_ 0 17 HT_.1 (ba_ 10 1) ?_; refine pu_ 1 18 HT_.1 (ba_ 10 3) ?_; refine pu_ 2 19 HT_.1 (ba_ 10 7) ?_; refine pu_ 4 21 HT_.1 (ba_ 10 23) ?_; refine pu_ 5 22 HT_.1 (ba_ 10 55) ?_; refine pu_ 6 23 HT_.1 (ba_ 10 119) ?_; refine ta_ 3 20 HT_.1 HW_.1 hHeld (ba_ 10 127) ?_; refine ta_ 7 24 HT_.1 HW_.1 hHeld (ba_ 10 255) ?_; refine one_ (i := 8) (N := some 25) (ba_ 10 511) rfl rfl (one_of HT_.1 kr_) (by decide) (fun K hK => ?_)
        refine goes_ Try.func76 kr_ rfl #[.agg #[.int .i64 (rd_T90 l0 x5_1).f0, .int .i64 (rd_T90 l0 x5_1).f1], .agg #[.int .i64 (rd_T90 l1 x5_1).f0, .int .i64 (rd_T90 l1 x5_1).f1]] (by rfl) rfl rfl (bc_) ?_
        with_reducible refine (laws_eqInstr.calls (rd_T90 l0 x5_1).f0 (rd_T90 l0 x5_1).f1 (rd_T90 l1 x5_1).f0 (rd_T90 l1 x5_1).f1 false _ A7.1).mono ?_
        rintro e w12 ⟨rfl, hb⟩; refine ⟨_, rfl, ?_⟩
        replace HB := Aside0.mk (below_step (bb_) hb)
        
        
        
        
        refine hK.out _ _ ⟨(cl_ HB.1 hw113_0), (cl_ HB.1 hw113_1), (cl_ HB.1 hw114_0), (cl_ HB.1 hw114_1)⟩ (fun hHeld => ?_)
        clear hK K; refine norm_ (a' := ?_) ?_ ?_
        rotate_left
        ·
         show Act.put _ (some 25) _ = _
         exact sp_
        refine pu_ 9 26 HT_.1 (ba_ 10 1023) ?_; refine done_ (done_of HT_.1 kr_) ?_
        try go_wp2
        go_ret; exact ⟨er_, bb_⟩
      ·
       rw [if_neg c6] at H; exact absurd H (by simp)
     ·
      rw [if_neg c5] at H; exact absurd H (by simp)
    ·
     rw [if_neg c4] at H; have c4b0 : decide (x5_1 < (l0.length : Int)) = false := decide_eq_false c4; clear c4; obtain rfl := Option.some.inj H; go_wp2; go_ret; exact ⟨er_, bb_⟩
 ·
  rw [if_neg c3] at H; have c3b0 : ((l0.length : Int) == (l1.length : Int)) = false := beq_eq_false_iff_ne.mpr c3; have c3b1 : ((l0.length : Int) != (l1.length : Int)) = true := bne_iff_ne.mpr c3; have c3b2 : (l0.length == l1.length) = false := by first | simpa using c3 | (simp at c3 ⊢; omega)
  obtain rfl := Option.some.inj H; go_enter Try.func37, Try.ntmps37; go_wp2; go_ret; exact ⟨er_, bb_⟩
def laws_eqBal.f (a0_0 : Int) (a0_1 : Int) (a0_2 : Int) (a1_0 : Int) (a1_1 : Int) (a1_2 : Int) : Option (Bool) := if a0_0 = a1_0 then (if a0_1 = a1_1 then (if a0_2 = a1_2 then (some true) else (some false)) else (some false)) else (some false)
theorem laws_eqBal.calls (a0_0 : Int) (a0_1 : Int) (a0_2 : Int) (a1_0 : Int) (a1_1 : Int) (a1_2 : Int) (r : Bool) (w : World) (h : laws_eqBal.f a0_0 a0_1 a0_2 a1_0 a1_1 a1_2 = some r) :
 Calls Try.prog 77 #[.agg #[.int .i64 a0_0, .int .i64 a0_1, .int .i64 a0_2], .agg #[.int .i64 a1_0, .int .i64 a1_1, .int .i64 a1_2]] w fun e w' => e = .returned (.bool r) ∧ Below w.heap.size w w' := by
 have hu93 := Try.underlying93; have HB := Aside0.mk (Below.refl w.heap.size w); have H : (if a0_0 = a1_0 then (if a0_1 = a1_1 then (if a0_2 = a1_2 then (some true) else (some false)) else (some false)) else (some false)) = some r := h; clear h
 by_cases c3 : a0_0 = a1_0
 ·
  rw [if_pos c3] at H; have c3b0 : (a0_0 == a1_0) = true := beq_iff_eq.mpr c3; have c3b1 : (a0_0 != a1_0) = false := bne_eq_false_iff_eq.mpr c3; clear c3
  by_cases c4 : a0_1 = a1_1
  ·
   rw [if_pos c4] at H; have c4b0 : (a0_1 == a1_1) = true := beq_iff_eq.mpr c4; have c4b1 : (a0_1 != a1_1) = false := bne_eq_false_iff_eq.mpr c4; clear c4
   by_cases c5 : a0_2 = a1_2
   ·
    rw [if_pos c5] at H; have c5b0 : (a0_2 == a1_2) = true := beq_iff_eq.mpr c5; have c5b1 : (a0_2 != a1_2) = false := bne_eq_false_iff_eq.mpr c5; clear c5; obtain rfl := Option.some.inj H; go_enter Try.func77, Try.ntmps77; go_wp2_with (first | ((with_reducible refine gate_dst (N := 2) rfl ?_); refine be_ 2 (cs := #[.int .i64 a0_0, .int .i64 a0_1, .int .i64 a0_2]) (t := 93) ?_; intro gb116 hg w6 hbox hb; have n_ := bx_ hg hbox hb; clear HB; obtain ⟨HB, BK116, GW116, GE116⟩ := n_; clear hb hbox hg) | ((with_reducible refine gate_dst (N := 3) rfl ?_); refine be_ 3 (cs := #[.int .i64 a1_0, .int .i64 a1_1, .int .i64 a1_2]) (t := 93) ?_; intro gb117 hg w7 hbox hb; have n_ := bz_ hg hbox hb BK116.1 GE116.1; clear BK116 HB; obtain ⟨BK116, HB, BK117, GW117, GE117, NB116_117, NB117_116⟩ := n_; clear hb hbox hg; have hnb8 := NB116_117.1; have hnc8 := NB117_116.1; obtain ⟨_, _, _, _, _, _⟩ := ce3_ BK116.1; obtain ⟨_, _, _, _, _, _⟩ := ce3_ BK117.1))
    go_ret; exact ⟨er_, bh_ GE116.1 GE117.1⟩
   ·
    rw [if_neg c5] at H; have c5b0 : (a0_2 == a1_2) = false := beq_eq_false_iff_ne.mpr c5; have c5b1 : (a0_2 != a1_2) = true := bne_iff_ne.mpr c5; obtain rfl := Option.some.inj H; go_enter Try.func77, Try.ntmps77; go_wp2_with (first | ((with_reducible refine gate_dst (N := 2) rfl ?_); refine be_ 2 (cs := #[.int .i64 a0_0, .int .i64 a0_1, .int .i64 a0_2]) (t := 93) ?_; intro gb116 hg w11 hbox hb; have n_ := bx_ hg hbox hb; clear HB; obtain ⟨HB, BK116, GW116, GE116⟩ := n_; clear hb hbox hg) | ((with_reducible refine gate_dst (N := 3) rfl ?_); refine be_ 3 (cs := #[.int .i64 a1_0, .int .i64 a1_1, .int .i64 a1_2]) (t := 93) ?_; intro gb117 hg w12 hbox hb; have n_ := bz_ hg hbox hb BK116.1 GE116.1; clear BK116 HB; obtain ⟨BK116, HB, BK117, GW117, GE117, NB116_117, NB117_116⟩ := n_; clear hb hbox hg; have hnb13 := NB116_117.1; have hnc13 := NB117_116.1; obtain ⟨_, _, _, _, _, _⟩ := ce3_ BK116.1; obtain ⟨_, _, _, _, _, _⟩ := ce3_ BK117.1))
    go_ret; exact ⟨er_, bh_ GE116.1 GE117.1⟩
  ·
   rw [if_neg c4] at H; have c4b0 : (a0_1 == a1_1) = false := beq_eq_false_iff_ne.mpr c4; have c4b1 : (a0_1 != a1_1) = true := bne_iff_ne.mpr c4; obtain rfl := Option.some.inj H; go_enter Try.func77, Try.ntmps77; go_wp2_with (first | ((with_reducible refine gate_dst (N := 2) rfl ?_); refine be_ 2 (cs := #[.int .i64 a0_0, .int .i64 a0_1, .int .i64 a0_2]) (t := 93) ?_; intro gb116 hg w16 hbox hb; have n_ := bx_ hg hbox hb; clear HB; obtain ⟨HB, BK116, GW116, GE116⟩ := n_; clear hb hbox hg) | ((with_reducible refine gate_dst (N := 3) rfl ?_); refine be_ 3 (cs := #[.int .i64 a1_0, .int .i64 a1_1, .int .i64 a1_2]) (t := 93) ?_; intro gb117 hg w17 hbox hb; have n_ := bz_ hg hbox hb BK116.1 GE116.1; clear BK116 HB; obtain ⟨BK116, HB, BK117, GW117, GE117, NB116_117, NB117_116⟩ := n_; clear hb hbox hg; have hnb18 := NB116_117.1; have hnc18 := NB117_116.1; obtain ⟨_, _, _, _, _, _⟩ := ce3_ BK116.1; obtain ⟨_, _, _, _, _, _⟩ := ce3_ BK117.1))
   go_ret; exact ⟨er_, bh_ GE116.1 GE117.1⟩
 ·
  rw [if_neg c3] at H; have c3b0 : (a0_0 == a1_0) = false := beq_eq_false_iff_ne.mpr c3; have c3b1 : (a0_0 != a1_0) = true := bne_iff_ne.mpr c3; obtain rfl := Option.some.inj H; go_enter Try.func77, Try.ntmps77; go_wp2_with (first | ((with_reducible refine gate_dst (N := 2) rfl ?_); refine be_ 2 (cs := #[.int .i64 a0_0, .int .i64 a0_1, .int .i64 a0_2]) (t := 93) ?_; intro gb116 hg w21 hbox hb; have n_ := bx_ hg hbox hb; clear HB; obtain ⟨HB, BK116, GW116, GE116⟩ := n_; clear hb hbox hg) | ((with_reducible refine gate_dst (N := 3) rfl ?_); refine be_ 3 (cs := #[.int .i64 a1_0, .int .i64 a1_1, .int .i64 a1_2]) (t := 93) ?_; intro gb117 hg w22 hbox hb; have n_ := bz_ hg hbox hb BK116.1 GE116.1; clear BK116 HB; obtain ⟨BK116, HB, BK117, GW117, GE117, NB116_117, NB117_116⟩ := n_; clear hb hbox hg; have hnb23 := NB116_117.1; have hnc23 := NB117_116.1; obtain ⟨_, _, _, _, _, _⟩ := ce3_ BK116.1; obtain ⟨_, _, _, _, _, _⟩ := ce3_ BK117.1))
  go_ret; exact ⟨er_, bh_ GE116.1 GE117.1⟩
end Go.Proofs.Ytmfgajbkcnlkcaa.P
namespace Go.Proofs.Ytmfgajbkcnlkcaa
section
open Go Go.RowKit Go.Proofs.YtmfgajbkcnlkcaaW.PrintWords Go.Proofs.YtmfgajbkcnlkcaaW.PrintLast Go.Proofs.YtmfgajbkcnlkcaaW.PrintMore
theorem ce5_ {w : World} {g : Nat} {t : TypeId} {v0 v1 v2 v3 v4 : Value} (h : w.heap[g]? = some (.cells #[v0, v1, v2, v3, v4] t (0, 0))) : w.cell? ⟨g, 0, none⟩ = some v0 ∧ w.cell? ⟨g, 1, none⟩ = some v1 ∧ w.cell? ⟨g, 2, none⟩ = some v2 ∧ w.cell? ⟨g, 3, none⟩ = some v3 ∧ w.cell? ⟨g, 4, none⟩ = some v4 ∧ w.frozen? ⟨g, 0, none⟩ = false ∧ w.frozen? ⟨g, 1, none⟩ = false ∧ w.frozen? ⟨g, 2, none⟩ = false ∧ w.frozen? ⟨g, 3, none⟩ = false ∧ w.frozen? ⟨g, 4, none⟩ = false := ⟨(blk_cell h 0).trans rfl, (blk_cell h 1).trans rfl, (blk_cell h 2).trans rfl, (blk_cell h 3).trans rfl, (blk_cell h 4).trans rfl, blk_frozen h 0, blk_frozen h 1, blk_frozen h 2, blk_frozen h 3, blk_frozen h 4⟩
theorem cl3_ {w W : World} {p0 p1 p2 : Addr} {v0 v1 v2 : Value} (hb : Below w.heap.size w W) (h0 : w.cell? p0 = some v0) (h1 : w.cell? p1 = some v1) (h2 : w.cell? p2 = some v2) : W.cell? p0 = some v0 ∧ W.cell? p1 = some v1 ∧ W.cell? p2 = some v2 := ⟨(hb.cell (World.block_lt_of_cell? w _ h0)).trans h0, (hb.cell (World.block_lt_of_cell? w _ h1)).trans h1, (hb.cell (World.block_lt_of_cell? w _ h2)).trans h2⟩
theorem cl5_ {w W : World} {p0 p1 p2 p3 p4 : Addr} {v0 v1 v2 v3 v4 : Value} (hb : Below w.heap.size w W) (h0 : w.cell? p0 = some v0) (h1 : w.cell? p1 = some v1) (h2 : w.cell? p2 = some v2) (h3 : w.cell? p3 = some v3) (h4 : w.cell? p4 = some v4) : W.cell? p0 = some v0 ∧ W.cell? p1 = some v1 ∧ W.cell? p2 = some v2 ∧ W.cell? p3 = some v3 ∧ W.cell? p4 = some v4 := ⟨(hb.cell (World.block_lt_of_cell? w _ h0)).trans h0, (hb.cell (World.block_lt_of_cell? w _ h1)).trans h1, (hb.cell (World.block_lt_of_cell? w _ h2)).trans h2, (hb.cell (World.block_lt_of_cell? w _ h3)).trans h3, (hb.cell (World.block_lt_of_cell? w _ h4)).trans h4⟩
end
end Go.Proofs.Ytmfgajbkcnlkcaa
namespace Go.Proofs.Ytmfgajbkcnlkcaa.P
open Go.RowKit Go.Proofs.YtmfgajbkcnlkcaaW.PrintWords Go.Proofs.YtmfgajbkcnlkcaaW.PrintLast Go.Proofs.YtmfgajbkcnlkcaaW.PrintMore
attribute [local go_sem] max2_int min2_int max_two min_two max_three min_three max_four min_four   -- for this text's walks alone
set_option linter.unusedVariables false
set_option linter.unusedSimpArgs false
def laws_eqBalS.l0 : Nat → List (S93) → List (S93) → Int → Option (Bool)
 | 0, _, _, _ => none
 | k + 1, x0, x1, x5 => if x5 < (x0.length : Int) then (if 0 ≤ x5 then (if x5 < (x1.length : Int) then ((laws_eqBal.f (rd_T93 x0 x5).f0 (rd_T93 x0 x5).f1 (rd_T93 x0 x5).f2 (rd_T93 x1 x5).f0 (rd_T93 x1 x5).f1 (rd_T93 x1 x5).f2).bind fun t120 => (if t120 = true then (laws_eqBalS.l0 k x0 x1 (wrap64 (x5 + 1))) else (some false))) else (none)) else (none)) else (some true)
def laws_eqBalS.f (k : Nat) (l0 : List (S93)) (l1 : List (S93)) : Option (Bool) := if (l0.length : Int) = (l1.length : Int) then (laws_eqBalS.l0 k l0 l1 0) else (some false)
def laws_eqBalS.T6 : Bool × List (List Nat × List Nat) := (true, [([], []), ([], []), ([0, 1], [0, 1]), ([2], [2]), ([], []), ([], []), ([4, 5], [4, 5]), ([6], [6]), ([3, 7], [3, 7]), ([8], [8])])
def laws_eqBalS.B6 : List Nat := [0, 0, 3, 7, 0, 0, 48, 112, 255, 511]
theorem laws_eqBalS.tab6 : rtab .any (opsOf Try.f38 6) = laws_eqBalS.T6 := by kernel_rfl
theorem laws_eqBalS.bits6 : waitsOk laws_eqBalS.T6.2 laws_eqBalS.B6 = true := by kernel_rfl
theorem laws_eqBalS.calls (k : Nat) (A0 : Option Addr) (c0 : Nat) (l0 : List (S93)) (A1 : Option Addr) (c1 : Nat) (l1 : List (S93)) (r : Bool) (w : World) (hr0 : Kd.C k93 w A0 l0.length l0) (hc0 : l0.length ≤ c0) (hr1 : Kd.C k93 w A1 l1.length l1) (hc1 : l1.length ≤ c1) (h : laws_eqBalS.f k l0 l1 = some r) :
 Calls Try.prog 38 #[.slice A0 l0.length c0, .slice A1 l1.length c1] w fun e w' => e = .returned (.bool r) ∧ Below w.heap.size w w' := by
 have hu93 := Try.underlying93; have HR0 := Aside0.mk hr0; have HC0 := Aside0.mk hc0; clear hr0 hc0; have HR1 := Aside0.mk hr1; have HC1 := Aside0.mk hc1; clear hr1 hc1; have HB := Aside0.mk (Below.refl w.heap.size w); have H : (if (l0.length : Int) = (l1.length : Int) then (laws_eqBalS.l0 k l0 l1 0) else (some false)) = some r := h; clear h
 by_cases c3 : (l0.length : Int) = (l1.length : Int)
 ·
  rw [if_pos c3] at H; have c3b0 : ((l0.length : Int) == (l1.length : Int)) = true := beq_iff_eq.mpr c3; have c3b1 : ((l0.length : Int) != (l1.length : Int)) = false := bne_eq_false_iff_eq.mpr c3; have c3b2 : (l0.length == l1.length) = true := by first | simpa using c3 | (simp at c3 ⊢; omega)
  clear c3; have H' := Aside0.mk H; clear H; go_enter Try.func38, Try.ntmps38; go_wp2; go_loopg [5] k (fun kq v5 w' => ∃ (x5_1 : Int), v5 = .int .i64 x5_1 ∧ Aside0 (laws_eqBalS.l0 kq l0 l1 x5_1 = some r) ∧ Aside0 (kq ≤ k) ∧ Aside0 (Below w.heap.size w w'))
  case atStart => exact ⟨(0), (rs_), H', ⟨Nat.le_refl _⟩, ⟨bb_⟩⟩
  case round =>
   clear H'; (try clear c1); (try clear p2); (try clear c3b0); (try clear c3b1); (try clear c3b2); obtain ⟨x5_1, rfl, HA, HK1, HB⟩ := hrel
   cases gk with
   | zero => exact absurd HA.1 (by simp [laws_eqBalS.l0])
   | succ k1 =>
    have H := HA.1; clear HA; simp only [laws_eqBalS.l0] at H
    by_cases c4 : x5_1 < (l0.length : Int)
    ·
     rw [if_pos c4] at H; have c4b0 : decide (x5_1 < (l0.length : Int)) = true := decide_eq_true c4; clear c4
     by_cases c5 : 0 ≤ x5_1
     ·
      rw [if_pos c5] at H; have c5b0 : decide (0 ≤ x5_1) = true := decide_eq_true c5; clear c5
      by_cases c6 : x5_1 < (l1.length : Int)
      ·
       rw [if_pos c6] at H; have c6b0 : decide (x5_1 < (l1.length : Int)) = true := decide_eq_true c6; clear c6; replace H := Option.bind_eq_some_iff.mp H; obtain ⟨t120, A70, H⟩ := H; have A7 := Aside0.mk A70; clear A70
       by_cases c8 : t120 = true
       ·
        subst c8; have H' := Aside0.mk (Eq.trans (if_pos rfl).symm H); clear H; try go_wp2
        replace HB := Aside0.mk (below_drew1 HB.1); have p118 : 0 ≤ (x5_1 : Int) := od_; have q118 : x5_1 < (l0.length : Int) := od_; obtain ⟨ad118, e118, hx118_0, hx118_1, hx118_2⟩ := at_T93 HR0.1 x5_1 p118 q118; have hw118_2 := hx118_2; have hw118_1 := hx118_1; have hw118_0 := hx118_0; cases e118; have n_ := cl3_ HB.1 hx118_0 hx118_1 hx118_2; clear hx118_0 hx118_1 hx118_2; obtain ⟨hx118_0, hx118_1, hx118_2⟩ := n_; replace p118 := eq_true p118; replace q118 := eq_true q118; have p119 : 0 ≤ (x5_1 : Int) := od_; have q119 : x5_1 < (l1.length : Int) := od_; obtain ⟨ad119, e119, hx119_0, hx119_1, hx119_2⟩ := at_T93 HR1.1 x5_1 p119 q119; have hw119_2 := hx119_2; have hw119_1 := hx119_1; have hw119_0 := hx119_0; cases e119; have n_ := cl3_ HB.1 hx119_0 hx119_1 hx119_2; clear hx119_0 hx119_1 hx119_2; obtain ⟨hx119_0, hx119_1, hx119_2⟩ := n_; replace p119 := eq_true p119; replace q119 := eq_true q119
        refine start_ (n := 10) (S := fun w' => w'.cell? (ad118.add ((x5_1).toNat * 3)) = some (.int .i64 (rd_T93 l0 x5_1).f0) ∧ w'.cell? ⟨(ad118.add ((x5_1).toNat * 3)).block, (ad118.add ((x5_1).toNat * 3)).off + 1, none⟩ = some (.int .i64 (rd_T93 l0 x5_1).f1) ∧ w'.cell? ⟨(ad118.add ((x5_1).toNat * 3)).block, (ad118.add ((x5_1).toNat * 3)).off + 2, none⟩ = some (.int .i64 (rd_T93 l0 x5_1).f2) ∧ w'.cell? (ad119.add ((x5_1).toNat * 3)) = some (.int .i64 (rd_T93 l1 x5_1).f0) ∧ w'.cell? ⟨(ad119.add ((x5_1).toNat * 3)).block, (ad119.add ((x5_1).toNat * 3)).off + 1, none⟩ = some (.int .i64 (rd_T93 l1 x5_1).f1) ∧ w'.cell? ⟨(ad119.add ((x5_1).toNat * 3)).block, (ad119.add ((x5_1).toNat * 3)).off + 2, none⟩ = some (.int .i64 (rd_T93 l1 x5_1).f2)) (ds := []) (ba_ 10 0) kr_ rfl rfl ⟨(cl_ HB.1 hw118_0), (cl_ HB.1 hw118_1), (cl_ HB.1 hw118_2), (cl_ HB.1 hw119_0), (cl_ HB.1 hw119_1), (cl_ HB.1 hw119_2)⟩ (fun hHeld => ?_); refine with_tabW laws_eqBalS.tab6 laws_eqBalS.bits6 (fun HT_ HW_ => ?_)
        generalize wr.drew = w9 at HB hx118_0 hx118_1 hx118_2 hx119_0 hx119_1 hx119_2 hHeld ⊢
        refine pu_ 0 17 HT_.1 (ba_ 10 1) ?_; refine pu_ 1 18 HT_.1 (ba_ 10 3) ?_; refine pu_ 2 19 HT_.1 (ba_ 10 7) ?_; refine pu_ 4 21 HT_.1 (ba_ 10 23) ?_; refine pu_ 5 22 HT_.1 (ba_ 10 55) ?_; refine pu_ 6 23 HT_.1 (ba_ 10 119) ?_; refine ta_ 3 20 HT_.1 HW_.1 hHeld (ba_ 10 127) ?_; refine ta_ 7 24 HT_.1 HW_.1 hHeld (ba_ 10 255) ?_; refine one_ (i := 8) (N := some 25) (ba_ 10 511) rfl rfl (one_of HT_.1 kr_) (by decide) (fun K hK => ?_)
        refine goes_ Try.func77 kr_ rfl #[.agg #[.int .i64 (rd_T93 l0 x5_1).f0, .int .i64 (rd_T93 l0 x5_1).f1, .int .i64 (rd_T93 l0 x5_1).f2], .agg #[.int .i64 (rd_T93 l1 x5_1).f0, .int .i64 (rd_T93 l1 x5_1).f1, .int .i64 (rd_T93 l1 x5_1).f2]] (by rfl) rfl rfl (bc_) ?_
        with_reducible refine (laws_eqBal.calls (rd_T93 l0 x5_1).f0 (rd_T93 l0 x5_1).f1 (rd_T93 l0 x5_1).f2 (rd_T93 l1 x5_1).f0 (rd_T93 l1 x5_1).f1 (rd_T93 l1 x5_1).f2 true _ A7.1).mono ?_
        rintro e w10 ⟨rfl, hb⟩; refine ⟨_, rfl, ?_⟩
        replace HB := Aside0.mk (below_step (bb_) hb)
        
        
        
        
        refine hK.out _ _ ⟨(cl_ HB.1 hw118_0), (cl_ HB.1 hw118_1), (cl_ HB.1 hw118_2), (cl_ HB.1 hw119_0), (cl_ HB.1 hw119_1), (cl_ HB.1 hw119_2)⟩ (fun hHeld => ?_)
        clear hK K; refine norm_ (a' := ?_) ?_ ?_
        rotate_left
        ·
         show Act.put _ (some 25) _ = _
         exact sp_
        refine pu_ 9 26 HT_.1 (ba_ 10 1023) ?_; refine done_ (done_of HT_.1 kr_) ?_
        try go_wp2
        go_roundg k1
        case measure => have := HK1.1; omega
        case rel => exact ⟨(wrap64 (x5_1 + 1)), (rs_), H', ⟨by have := HK1.1; omega⟩, ⟨bb_⟩⟩
       ·
        replace c8 := Bool.eq_false_iff.mpr c8; subst c8; replace H := Eq.trans (if_neg nf_).symm H; obtain rfl := Option.some.inj H; try go_wp2
        replace HB := Aside0.mk (below_drew1 HB.1); have p118 : 0 ≤ (x5_1 : Int) := od_; have q118 : x5_1 < (l0.length : Int) := od_; obtain ⟨ad118, e118, hx118_0, hx118_1, hx118_2⟩ := at_T93 HR0.1 x5_1 p118 q118; have hw118_2 := hx118_2; have hw118_1 := hx118_1; have hw118_0 := hx118_0; cases e118; have n_ := cl3_ HB.1 hx118_0 hx118_1 hx118_2; clear hx118_0 hx118_1 hx118_2; obtain ⟨hx118_0, hx118_1, hx118_2⟩ := n_; replace p118 := eq_true p118; replace q118 := eq_true q118; have p119 : 0 ≤ (x5_1 : Int) := od_; have q119 : x5_1 < (l1.length : Int) := od_; obtain ⟨ad119, e119, hx119_0, hx119_1, hx119_2⟩ := at_T93 HR1.1 x5_1 p119 q119; have hw119_2 := hx119_2; have hw119_1 := hx119_1; have hw119_0 := hx119_0; cases e119; have n_ := cl3_ HB.1 hx119_0 hx119_1 hx119_2; clear hx119_0 hx119_1 hx119_2; obtain ⟨hx119_0, hx119_1, hx119_2⟩ := n_; replace p119 := eq_true p119; replace q119 := eq_true q119
        refine start_ (n := 10) (S := fun w' => w'.cell? (ad118.add ((x5_1).toNat * 3)) = some (.int .i64 (rd_T93 l0 x5_1).f0) ∧ w'.cell? ⟨(ad118.add ((x5_1).toNat * 3)).block, (ad118.add ((x5_1).toNat * 3)).off + 1, none⟩ = some (.int .i64 (rd_T93 l0 x5_1).f1) ∧ w'.cell? ⟨(ad118.add ((x5_1).toNat * 3)).block, (ad118.add ((x5_1).toNat * 3)).off + 2, none⟩ = some (.int .i64 (rd_T93 l0 x5_1).f2) ∧ w'.cell? (ad119.add ((x5_1).toNat * 3)) = some (.int .i64 (rd_T93 l1 x5_1).f0) ∧ w'.cell? ⟨(ad119.add ((x5_1).toNat * 3)).block, (ad119.add ((x5_1).toNat * 3)).off + 1, none⟩ = some (.int .i64 (rd_T93 l1 x5_1).f1) ∧ w'.cell? ⟨(ad119.add ((x5_1).toNat * 3)).block, (ad119.add ((x5_1).toNat * 3)).off + 2, none⟩ = some (.int .i64 (rd_T93 l1 x5_1).f2)) (ds := []) (ba_ 10 0) kr_ rfl rfl ⟨(cl_ HB.1 hw118_0), (cl_ HB.1 hw118_1), (cl_ HB.1 hw118_2), (cl_ HB.1 hw119_0), (cl_ HB.1 hw119_1), (cl_ HB.1 hw119_2)⟩ (fun hHeld => ?_); refine with_tabW laws_eqBalS.tab6 laws_eqBalS.bits6 (fun HT_ HW_ => ?_)
        generalize wr.drew = w11 at HB hx118_0 hx118_1 hx118_2 hx119_0 hx119_1 hx119_2 hHeld ⊢
        refine pu_ 0 17 HT_.1 (ba_ 10 1) ?_; refine pu_ 1 18 HT_.1 (ba_ 10 3) ?_; refine pu_ 2 19 HT_.1 (ba_ 10 7) ?_; refine pu_ 4 21 HT_.1 (ba_ 10 23) ?_; refine pu_ 5 22 HT_.1 (ba_ 10 55) ?_; refine pu_ 6 23 HT_.1 (ba_ 10 119) ?_; refine ta_ 3 20 HT_.1 HW_.1 hHeld (ba_ 10 127) ?_; refine ta_ 7 24 HT_.1 HW_.1 hHeld (ba_ 10 255) ?_; refine one_ (i := 8) (N := some 25) (ba_ 10 511) rfl rfl (one_of HT_.1 kr_) (by decide) (fun K hK => ?_)
        refine goes_ Try.func77 kr_ rfl #[.agg #[.int .i64 (rd_T93 l0 x5_1).f0, .int .i64 (rd_T93 l0 x5_1).f1, .int .i64 (rd_T93 l0 x5_1).f2], .agg #[.int .i64 (rd_T93 l1 x5_1).f0, .int .i64 (rd_T93 l1 x5_1).f1, .int .i64 (rd_T93 l1 x5_1).f2]] (by rfl) rfl rfl (bc_) ?_
        with_reducible refine (laws_eqBal.calls (rd_T93 l0 x5_1).f0 (rd_T93 l0 x5_1).f1 (rd_T93 l0 x5_1).f2 (rd_T93 l1 x5_1).f0 (rd_T93 l1 x5_1).f1 (rd_T93 l1 x5_1).f2 false _ A7.1).mono ?_
        rintro e w12 ⟨rfl, hb⟩; refine ⟨_, rfl, ?_⟩
        replace HB := Aside0.mk (below_step (bb_) hb)
        
        
        
        
        refine hK.out _ _ ⟨(cl_ HB.1 hw118_0), (cl_ HB.1 hw118_1), (cl_ HB.1 hw118_2), (cl_ HB.1 hw119_0), (cl_ HB.1 hw119_1), (cl_ HB.1 hw119_2)⟩ (fun hHeld => ?_)
        clear hK K; refine norm_ (a' := ?_) ?_ ?_
        rotate_left
        ·
         show Act.put _ (some 25) _ = _
         exact sp_
        refine pu_ 9 26 HT_.1 (ba_ 10 1023) ?_; refine done_ (done_of HT_.1 kr_) ?_
        try go_wp2
        go_ret; exact ⟨er_, bb_⟩
      ·
       rw [if_neg c6] at H; exact absurd H (by simp)
     ·
      rw [if_neg c5] at H; exact absurd H (by simp)
    ·
     rw [if_neg c4] at H; have c4b0 : decide (x5_1 < (l0.length : Int)) = false := decide_eq_false c4; clear c4; obtain rfl := Option.some.inj H; go_wp2; go_ret; exact ⟨er_, bb_⟩
 ·
  rw [if_neg c3] at H; have c3b0 : ((l0.length : Int) == (l1.length : Int)) = false := beq_eq_false_iff_ne.mpr c3; have c3b1 : ((l0.length : Int) != (l1.length : Int)) = true := bne_iff_ne.mpr c3; have c3b2 : (l0.length == l1.length) = false := by first | simpa using c3 | (simp at c3 ⊢; omega)
  obtain rfl := Option.some.inj H; go_enter Try.func38, Try.ntmps38; go_wp2; go_ret; exact ⟨er_, bb_⟩
def laws_eqLot.f (a0_0 : Int) (a0_1 : Int) (a0_2 : Int) (a0_3 : Int) (a0_4 : Int) (a1_0 : Int) (a1_1 : Int) (a1_2 : Int) (a1_3 : Int) (a1_4 : Int) : Option (Bool) := if a0_0 = a1_0 then (if a0_1 = a1_1 then (if a0_2 = a1_2 then (if a0_3 = a1_3 then (if a0_4 = a1_4 then (some true) else (some false)) else (some false)) else (some false)) else (some false)) else (some false)
theorem laws_eqLot.calls (a0_0 : Int) (a0_1 : Int) (a0_2 : Int) (a0_3 : Int) (a0_4 : Int) (a1_0 : Int) (a1_1 : Int) (a1_2 : Int) (a1_3 : Int) (a1_4 : Int) (r : Bool) (w : World) (h : laws_eqLot.f a0_0 a0_1 a0_2 a0_3 a0_4 a1_0 a1_1 a1_2 a1_3 a1_4 = some r) :
 Calls Try.prog 78 #[.agg #[.int .i64 a0_0, .int .i64 a0_1, .int .i64 a0_2, .int .i64 a0_3, .int .i64 a0_4], .agg #[.int .i64 a1_0, .int .i64 a1_1, .int .i64 a1_2, .int .i64 a1_3, .int .i64 a1_4]] w fun e w' => e = .returned (.bool r) ∧ Below w.heap.size w w' := by
 have hu96 := Try.underlying96; have HB := Aside0.mk (Below.refl w.heap.size w); have H : (if a0_0 = a1_0 then (if a0_1 = a1_1 then (if a0_2 = a1_2 then (if a0_3 = a1_3 then (if a0_4 = a1_4 then (some true) else (some false)) else (some false)) else (some false)) else (some false)) else (some false)) = some r := h; clear h
 by_cases c3 : a0_0 = a1_0
 ·
  rw [if_pos c3] at H; have c3b0 : (a0_0 == a1_0) = true := beq_iff_eq.mpr c3; have c3b1 : (a0_0 != a1_0) = false := bne_eq_false_iff_eq.mpr c3; clear c3
  by_cases c4 : a0_1 = a1_1
  ·
   rw [if_pos c4] at H; have c4b0 : (a0_1 == a1_1) = true := beq_iff_eq.mpr c4; have c4b1 : (a0_1 != a1_1) = false := bne_eq_false_iff_eq.mpr c4; clear c4
   by_cases c5 : a0_2 = a1_2
   ·
    rw [if_pos c5] at H; have c5b0 : (a0_2 == a1_2) = true := beq_iff_eq.mpr c5; have c5b1 : (a0_2 != a1_2) = false := bne_eq_false_iff_eq.mpr c5; clear c5
    by_cases c6 : a0_3 = a1_3
    ·
     rw [if_pos c6] at H; have c6b0 : (a0_3 == a1_3) = true := beq_iff_eq.mpr c6; have c6b1 : (a0_3 != a1_3) = false := bne_eq_false_iff_eq.mpr c6; clear c6
     by_cases c7 : a0_4 = a1_4
     ·
      rw [if_pos c7] at H; have c7b0 : (a0_4 == a1_4) = true := beq_iff_eq.mpr c7; have c7b1 : (a0_4 != a1_4) = false := bne_eq_false_iff_eq.mpr c7; clear c7; obtain rfl := Option.some.inj H; go_enter Try.func78, Try.ntmps78; go_wp2_with (first | ((with_reducible refine gate_dst (N := 2) rfl ?_); refine be_ 2 (cs := #[.int .i64 a0_0, .int .i64 a0_1, .int .i64 a0_2, .int .i64 a0_3, .int .i64 a0_4]) (t := 96) ?_; intro gb121 hg w8 hbox hb; have n_ := bx_ hg hbox hb; clear HB; obtain ⟨HB, BK121, GW121, GE121⟩ := n_; clear hb hbox hg) | ((with_reducible refine gate_dst (N := 3) rfl ?_); refine be_ 3 (cs := #[.int .i64 a1_0, .int .i64 a1_1, .int .i64 a1_2, .int .i64 a1_3, .int .i64 a1_4]) (t := 96) ?_; intro gb122 hg w9 hbox hb; have n_ := bz_ hg hbox hb BK121.1 GE121.1; clear BK121 HB; obtain ⟨BK121, HB, BK122, GW122, GE122, NB121_122, NB122_121⟩ := n_; clear hb hbox hg; have hnb10 := NB121_122.1; have hnc10 := NB122_121.1; obtain ⟨_, _, _, _, _, _, _, _, _, _⟩ := ce5_ BK121.1; obtain ⟨_, _, _, _, _, _, _, _, _, _⟩ := ce5_ BK122.1))
      go_ret; exact ⟨er_, bh_ GE121.1 GE122.1⟩
     ·
      rw [if_neg c7] at H; have c7b0 : (a0_4 == a1_4) = false := beq_eq_false_iff_ne.mpr c7; have c7b1 : (a0_4 != a1_4) = true := bne_iff_ne.mpr c7; obtain rfl := Option.some.inj H; go_enter Try.func78, Try.ntmps78; go_wp2_with (first | ((with_reducible refine gate_dst (N := 2) rfl ?_); refine be_ 2 (cs := #[.int .i64 a0_0, .int .i64 a0_1, .int .i64 a0_2, .int .i64 a0_3, .int .i64 a0_4]) (t := 96) ?_; intro gb121 hg w13 hbox hb; have n_ := bx_ hg hbox hb; clear HB; obtain ⟨HB, BK121, GW121, GE121⟩ := n_; clear hb hbox hg) | ((with_reducible refine gate_dst (N := 3) rfl ?_); refine be_ 3 (cs := #[.int .i64 a1_0, .int .i64 a1_1, .int .i64 a1_2, .int .i64 a1_3, .int .i64 a1_4]) (t := 96) ?_; intro gb122 hg w14 hbox hb; have n_ := bz_ hg hbox hb BK121.1 GE121.1; clear BK121 HB; obtain ⟨BK121, HB, BK122, GW122, GE122, NB121_122, NB122_121⟩ := n_; clear hb hbox hg; have hnb15 := NB121_122.1; have hnc15 := NB122_121.1; obtain ⟨_, _, _, _, _, _, _, _, _, _⟩ := ce5_ BK121.1; obtain ⟨_, _, _, _, _, _, _, _, _, _⟩ := ce5_ BK122.1))
      go_ret; exact ⟨er_, bh_ GE121.1 GE122.1⟩
    ·
     rw [if_neg c6] at H; have c6b0 : (a0_3 == a1_3) = false := beq_eq_false_iff_ne.mpr c6; have c6b1 : (a0_3 != a1_3) = true := bne_iff_ne.mpr c6; obtain rfl := Option.some.inj H; go_enter Try.func78, Try.ntmps78; go_wp2_with (first | ((with_reducible refine gate_dst (N := 2) rfl ?_); refine be_ 2 (cs := #[.int .i64 a0_0, .int .i64 a0_1, .int .i64 a0_2, .int .i64 a0_3, .int .i64 a0_4]) (t := 96) ?_; intro gb121 hg w18 hbox hb; have n_ := bx_ hg hbox hb; clear HB; obtain ⟨HB, BK121, GW121, GE121⟩ := n_; clear hb hbox hg) | ((with_reducible refine gate_dst (N := 3) rfl ?_); refine be_ 3 (cs := #[.int .i64 a1_0, .int .i64 a1_1, .int .i64 a1_2, .int .i64 a1_3, .int .i64 a1_4]) (t := 96) ?_; intro gb122 hg w19 hbox hb; have n_ := bz_ hg hbox hb BK121.1 GE121.1; clear BK121 HB; obtain ⟨BK121, HB, BK122, GW122, GE122, NB121_122, NB122_121⟩ := n_; clear hb hbox hg; have hnb20 := NB121_122.1; have hnc20 := NB122_121.1; obtain ⟨_, _, _, _, _, _, _, _, _, _⟩ := ce5_ BK121.1; obtain ⟨_, _, _, _, _, _, _, _, _, _⟩ := ce5_ BK122.1))
     go_ret; exact ⟨er_, bh_ GE121.1 GE122.1⟩
   ·
    rw [if_neg c5] at H; have c5b0 : (a0_2 == a1_2) = false := beq_eq_false_iff_ne.mpr c5; have c5b1 : (a0_2 != a1_2) = true := bne_iff_ne.mpr c5; obtain rfl := Option.some.inj H; go_enter Try.func78, Try.ntmps78; go_wp2_with (first | ((with_reducible refine gate_dst (N := 2) rfl ?_); refine be_ 2 (cs := #[.int .i64 a0_0, .int .i64 a0_1, .int .i64 a0_2, .int .i64 a0_3, .int .i64 a0_4]) (t := 96) ?_; intro gb121 hg w23 hbox hb; have n_ := bx_ hg hbox hb; clear HB; obtain ⟨HB, BK121, GW121, GE121⟩ := n_; clear hb hbox hg) | ((with_reducible refine gate_dst (N := 3) rfl ?_); refine be_ 3 (cs := #[.int .i64 a1_0, .int .i64 a1_1, .int .i64 a1_2, .int .i64 a1_3, .int .i64 a1_4]) (t := 96) ?_; intro gb122 hg w24 hbox hb; have n_ := bz_ hg hbox hb BK121.1 GE121.1; clear BK121 HB; obtain ⟨BK121, HB, BK122, GW122, GE122, NB121_122, NB122_121⟩ := n_; clear hb hbox hg; have hnb25 := NB121_122.1; have hnc25 := NB122_121.1; obtain ⟨_, _, _, _, _, _, _, _, _, _⟩ := ce5_ BK121.1; obtain ⟨_, _, _, _, _, _, _, _, _, _⟩ := ce5_ BK122.1))
    go_ret; exact ⟨er_, bh_ GE121.1 GE122.1⟩
  ·
   rw [if_neg c4] at H; have c4b0 : (a0_1 == a1_1) = false := beq_eq_false_iff_ne.mpr c4; have c4b1 : (a0_1 != a1_1) = true := bne_iff_ne.mpr c4; obtain rfl := Option.some.inj H; go_enter Try.func78, Try.ntmps78; go_wp2_with (first | ((with_reducible refine gate_dst (N := 2) rfl ?_); refine be_ 2 (cs := #[.int .i64 a0_0, .int .i64 a0_1, .int .i64 a0_2, .int .i64 a0_3, .int .i64 a0_4]) (t := 96) ?_; intro gb121 hg w28 hbox hb; have n_ := bx_ hg hbox hb; clear HB; obtain ⟨HB, BK121, GW121, GE121⟩ := n_; clear hb hbox hg) | ((with_reducible refine gate_dst (N := 3) rfl ?_); refine be_ 3 (cs := #[.int .i64 a1_0, .int .i64 a1_1, .int .i64 a1_2, .int .i64 a1_3, .int .i64 a1_4]) (t := 96) ?_; intro gb122 hg w29 hbox hb; have n_ := bz_ hg hbox hb BK121.1 GE121.1; clear BK121 HB; obtain ⟨BK121, HB, BK122, GW122, GE122, NB121_122, NB122_121⟩ := n_; clear hb hbox hg; have hnb30 := NB121_122.1; have hnc30 := NB122_121.1; obtain ⟨_, _, _, _, _, _, _, _, _, _⟩ := ce5_ BK121.1; obtain ⟨_, _, _, _, _, _, _, _, _, _⟩ := ce5_ BK122.1))
   go_ret; exact ⟨er_, bh_ GE121.1 GE122.1⟩
 ·
  rw [if_neg c3] at H; have c3b0 : (a0_0 == a1_0) = false := beq_eq_false_iff_ne.mpr c3; have c3b1 : (a0_0 != a1_0) = true := bne_iff_ne.mpr c3; obtain rfl := Option.some.inj H; go_enter Try.func78, Try.ntmps78; go_wp2_with (first | ((with_reducible refine gate_dst (N := 2) rfl ?_); refine be_ 2 (cs := #[.int .i64 a0_0, .int .i64 a0_1, .int .i64 a0_2, .int .i64 a0_3, .int .i64 a0_4]) (t := 96) ?_; intro gb121 hg w33 hbox hb; have n_ := bx_ hg hbox hb; clear HB; obtain ⟨HB, BK121, GW121, GE121⟩ := n_; clear hb hbox hg) | ((with_reducible refine gate_dst (N := 3) rfl ?_); refine be_ 3 (cs := #[.int .i64 a1_0, .int .i64 a1_1, .int .i64 a1_2, .int .i64 a1_3, .int .i64 a1_4]) (t := 96) ?_; intro gb122 hg w34 hbox hb; have n_ := bz_ hg hbox hb BK121.1 GE121.1; clear BK121 HB; obtain ⟨BK121, HB, BK122, GW122, GE122, NB121_122, NB122_121⟩ := n_; clear hb hbox hg; have hnb35 := NB121_122.1; have hnc35 := NB122_121.1; obtain ⟨_, _, _, _, _, _, _, _, _, _⟩ := ce5_ BK121.1; obtain ⟨_, _, _, _, _, _, _, _, _, _⟩ := ce5_ BK122.1))
  go_ret; exact ⟨er_, bh_ GE121.1 GE122.1⟩
def laws_eqLotS.l0 : Nat → List (S96) → List (S96) → Int → Option (Bool)
 | 0, _, _, _ => none
 | k + 1, x0, x1, x5 => if x5 < (x0.length : Int) then (if 0 ≤ x5 then (if x5 < (x1.length : Int) then ((laws_eqLot.f (rd_T96 x0 x5).f0 (rd_T96 x0 x5).f1 (rd_T96 x0 x5).f2 (rd_T96 x0 x5).f3 (rd_T96 x0 x5).f4 (rd_T96 x1 x5).f0 (rd_T96 x1 x5).f1 (rd_T96 x1 x5).f2 (rd_T96 x1 x5).f3 (rd_T96 x1 x5).f4).bind fun t125 => (if t125 = true then (laws_eqLotS.l0 k x0 x1 (wrap64 (x5 + 1))) else (some false))) else (none)) else (none)) else (some true)
def laws_eqLotS.f (k : Nat) (l0 : List (S96)) (l1 : List (S96)) : Option (Bool) := if (l0.length : Int) = (l1.length : Int) then (laws_eqLotS.l0 k l0 l1 0) else (some false)
def laws_eqLotS.T6 : Bool × List (List Nat × List Nat) := (true, [([], []), ([], []), ([0, 1], [0, 1]), ([2], [2]), ([], []), ([], []), ([4, 5], [4, 5]), ([6], [6]), ([3, 7], [3, 7]), ([8], [8])])
def laws_eqLotS.B6 : List Nat := [0, 0, 3, 7, 0, 0, 48, 112, 255, 511]
theorem laws_eqLotS.tab6 : rtab .any (opsOf Try.f39 6) = laws_eqLotS.T6 := by kernel_rfl
theorem laws_eqLotS.bits6 : waitsOk laws_eqLotS.T6.2 laws_eqLotS.B6 = true := by kernel_rfl
theorem laws_eqLotS.calls (k : Nat) (A0 : Option Addr) (c0 : Nat) (l0 : List (S96)) (A1 : Option Addr) (c1 : Nat) (l1 : List (S96)) (r : Bool) (w : World) (hr0 : Kd.C k96 w A0 l0.length l0) (hc0 : l0.length ≤ c0) (hr1 : Kd.C k96 w A1 l1.length l1) (hc1 : l1.length ≤ c1) (h : laws_eqLotS.f k l0 l1 = some r) :
 Calls Try.prog 39 #[.slice A0 l0.length c0, .slice A1 l1.length c1] w fun e w' => e = .returned (.bool r) ∧ Below w.heap.size w w' := by
 have hu96 := Try.underlying96; have HR0 := Aside0.mk hr0; have HC0 := Aside0.mk hc0; clear hr0 hc0; have HR1 := Aside0.mk hr1; have HC1 := Aside0.mk hc1; clear hr1 hc1; have HB := Aside0.mk (Below.refl w.heap.size w); have H : (if (l0.length : Int) = (l1.length : Int) then (laws_eqLotS.l0 k l0 l1 0) else (some false)) = some r := h; clear h
 by_cases c3 : (l0.length : Int) = (l1.length : Int)
 ·
  rw [if_pos c3] at H; have c3b0 : ((l0.length : Int) == (l1.length : Int)) = true := beq_iff_eq.mpr c3; have c3b1 : ((l0.length : Int) != (l1.length : Int)) = false := bne_eq_false_iff_eq.mpr c3; have c3b2 : (l0.length == l1.length) = true := by first | simpa using c3 | (simp at c3 ⊢; omega)
  clear c3; have H' := Aside0.mk H; clear H; go_enter Try.func39, Try.ntmps39; go_wp2; go_loopg [5] k (fun kq v5 w' => ∃ (x5_1 : Int), v5 = .int .i64 x5_1 ∧ Aside0 (laws_eqLotS.l0 kq l0 l1 x5_1 = some r) ∧ Aside0 (kq ≤ k) ∧ Aside0 (Below w.heap.size w w'))
  case atStart => exact ⟨(0), (rs_), H', ⟨Nat.le_refl _⟩, ⟨bb_⟩⟩
  case round =>
   clear H'; (try clear c1); (try clear p2); (try clear c3b0); (try clear c3b1); (try clear c3b2); obtain ⟨x5_1, rfl, HA, HK1, HB⟩ := hrel
   cases gk with
   | zero => exact absurd HA.1 (by simp [laws_eqLotS.l0])
   | succ k1 =>
    have H := HA.1; clear HA; simp only [laws_eqLotS.l0] at H
    by_cases c4 : x5_1 < (l0.length : Int)
    ·
     rw [if_pos c4] at H; have c4b0 : decide (x5_1 < (l0.length : Int)) = true := decide_eq_true c4; clear c4
     by_cases c5 : 0 ≤ x5_1
     ·
      rw [if_pos c5] at H; have c5b0 : decide (0 ≤ x5_1) = true := decide_eq_true c5; clear c5
      by_cases c6 : x5_1 < (l1.length : Int)
      ·
       rw [if_pos c6] at H; have c6b0 : decide (x5_1 < (l1.length : Int)) = true := decide_eq_true c6; clear c6; replace H := Option.bind_eq_some_iff.mp H; obtain ⟨t125, A70, H⟩ := H; have A7 := Aside0.mk A70; clear A70
       by_cases c8 : t125 = true
       ·
        subst c8; have H' := Aside0.mk (Eq.trans (if_pos rfl).symm H); clear H; try go_wp2
        replace HB := Aside0.mk (below_drew1 HB.1); have p123 : 0 ≤ (x5_1 : Int) := od_; have q123 : x5_1 < (l0.length : Int) := od_; obtain ⟨ad123, e123, hx123_0, hx123_1, hx123_2, hx123_3, hx123_4⟩ := at_T96 HR0.1 x5_1 p123 q123; have hw123_4 := hx123_4; have hw123_3 := hx123_3; have hw123_2 := hx123_2; have hw123_1 := hx123_1; have hw123_0 := hx123_0; cases e123; have n_ := cl5_ HB.1 hx123_0 hx123_1 hx123_2 hx123_3 hx123_4; clear hx123_0 hx123_1 hx123_2 hx123_3 hx123_4; obtain ⟨hx123_0, hx123_1, hx123_2, hx123_3, hx123_4⟩ := n_; replace p123 := eq_true p123; replace q123 := eq_true q123; have p124 : 0 ≤ (x5_1 : Int) := od_; have q124 : x5_1 < (l1.length : Int) := od_; obtain ⟨ad124, e124, hx124_0, hx124_1, hx124_2, hx124_3, hx124_4⟩ := at_T96 HR1.1 x5_1 p124 q124; have hw124_4 := hx124_4; have hw124_3 := hx124_3; have hw124_2 := hx124_2; have hw124_1 := hx124_1; have hw124_0 := hx124_0; cases e124; have n_ := cl5_ HB.1 hx124_0 hx124_1 hx124_2 hx124_3 hx124_4; clear hx124_0 hx124_1 hx124_2 hx124_3 hx124_4; obtain ⟨hx124_0, hx124_1, hx124_2, hx124_3, hx124_4⟩ := n_; replace p124 := eq_true p124; replace q124 := eq_true q124
        refine start_ (n := 10) (S := fun w' => w'.cell? (ad123.add ((x5_1).toNat * 5)) = some (.int .i64 (rd_T96 l0 x5_1).f0) ∧ w'.cell? ⟨(ad123.add ((x5_1).toNat * 5)).block, (ad123.add ((x5_1).toNat * 5)).off + 1, none⟩ = some (.int .i64 (rd_T96 l0 x5_1).f1) ∧ w'.cell? ⟨(ad123.add ((x5_1).toNat * 5)).block, (ad123.add ((x5_1).toNat * 5)).off + 2, none⟩ = some (.int .i64 (rd_T96 l0 x5_1).f2) ∧ w'.cell? ⟨(ad123.add ((x5_1).toNat * 5)).block, (ad123.add ((x5_1).toNat * 5)).off + 3, none⟩ = some (.int .i64 (rd_T96 l0 x5_1).f3) ∧ w'.cell? ⟨(ad123.add ((x5_1).toNat * 5)).block, (ad123.add ((x5_1).toNat * 5)).off + 4, none⟩ = some (.int .i64 (rd_T96 l0 x5_1).f4) ∧ w'.cell? (ad124.add ((x5_1).toNat * 5)) = some (.int .i64 (rd_T96 l1 x5_1).f0) ∧ w'.cell? ⟨(ad124.add ((x5_1).toNat * 5)).block, (ad124.add ((x5_1).toNat * 5)).off + 1, none⟩ = some (.int .i64 (rd_T96 l1 x5_1).f1) ∧ w'.cell? ⟨(ad124.add ((x5_1).toNat * 5)).block, (ad124.add ((x5_1).toNat * 5)).off + 2, none⟩ = some (.int .i64 (rd_T96 l1 x5_1).f2) ∧ w'.cell? ⟨(ad124.add ((x5_1).toNat * 5)).block, (ad124.add ((x5_1).toNat * 5)).off + 3, none⟩ = some (.int .i64 (rd_T96 l1 x5_1).f3) ∧ w'.cell? ⟨(ad124.add ((x5_1).toNat * 5)).block, (ad124.add ((x5_1).toNat * 5)).off + 4, none⟩ = some (.int .i64 (rd_T96 l1 x5_1).f4)) (ds := []) (ba_ 10 0) kr_ rfl rfl ⟨(cl_ HB.1 hw123_0), (cl_ HB.1 hw123_1), (cl_ HB.1 hw123_2), (cl_ HB.1 hw123_3), (cl_ HB.1 hw123_4), (cl_ HB.1 hw124_0), (cl_ HB.1 hw124_1), (cl_ HB.1 hw124_2), (cl_ HB.1 hw124_3), (cl_ HB.1 hw124_4)⟩ (fun hHeld => ?_); refine with_tabW laws_eqLotS.tab6 laws_eqLotS.bits6 (fun HT_ HW_ => ?_)
        generalize wr.drew = w9 at HB hx123_0 hx123_1 hx123_2 hx123_3 hx123_4 hx124_0 hx124_1 hx124_2 hx124_3 hx124_4 hHeld ⊢
        refine pu_ 0 17 HT_.1 (ba_ 10 1) ?_; refine pu_ 1 18 HT_.1 (ba_ 10 3) ?_; refine pu_ 2 19 HT_.1 (ba_ 10 7) ?_; refine pu_ 4 21 HT_.1 (ba_ 10 23) ?_; refine pu_ 5 22 HT_.1 (ba_ 10 55) ?_; refine pu_ 6 23 HT_.1 (ba_ 10 119) ?_; refine ta_ 3 20 HT_.1 HW_.1 hHeld (ba_ 10 127) ?_; refine ta_ 7 24 HT_.1 HW_.1 hHeld (ba_ 10 255) ?_; refine one_ (i := 8) (N := some 25) (ba_ 10 511) rfl rfl (one_of HT_.1 kr_) (by decide) (fun K hK => ?_)
        refine goes_ Try.func78 kr_ rfl #[.agg #[.int .i64 (rd_T96 l0 x5_1).f0, .int .i64 (rd_T96 l0 x5_1).f1, .int .i64 (rd_T96 l0 x5_1).f2, .int .i64 (rd_T96 l0 x5_1).f3, .int .i64 (rd_T96 l0 x5_1).f4], .agg #[.int .i64 (rd_T96 l1 x5_1).f0, .int .i64 (rd_T96 l1 x5_1).f1, .int .i64 (rd_T96 l1 x5_1).f2, .int .i64 (rd_T96 l1 x5_1).f3, .int .i64 (rd_T96 l1 x5_1).f4]] (by rfl) rfl rfl (bc_) ?_
        with_reducible refine (laws_eqLot.calls (rd_T96 l0 x5_1).f0 (rd_T96 l0 x5_1).f1 (rd_T96 l0 x5_1).f2 (rd_T96 l0 x5_1).f3 (rd_T96 l0 x5_1).f4 (rd_T96 l1 x5_1).f0 (rd_T96 l1 x5_1).f1 (rd_T96 l1 x5_1).f2 (rd_T96 l1 x5_1).f3 (rd_T96 l1 x5_1).f4 true _ A7.1).mono ?_
        rintro e w10 ⟨rfl, hb⟩; refine ⟨_, rfl, ?_⟩
        replace HB := Aside0.mk (below_step (bb_) hb)
        
        
        
        
        refine hK.out _ _ ⟨(cl_ HB.1 hw123_0), (cl_ HB.1 hw123_1), (cl_ HB.1 hw123_2), (cl_ HB.1 hw123_3), (cl_ HB.1 hw123_4), (cl_ HB.1 hw124_0), (cl_ HB.1 hw124_1), (cl_ HB.1 hw124_2), (cl_ HB.1 hw124_3), (cl_ HB.1 hw124_4)⟩ (fun hHeld => ?_)
        clear hK K; refine norm_ (a' := ?_) ?_ ?_
        rotate_left
        ·
         show Act.put _ (some 25) _ = _
         exact sp_
        refine pu_ 9 26 HT_.1 (ba_ 10 1023) ?_; refine done_ (done_of HT_.1 kr_) ?_
        try go_wp2
        go_roundg k1
        case measure => have := HK1.1; omega
        case rel => exact ⟨(wrap64 (x5_1 + 1)), (rs_), H', ⟨by have := HK1.1; omega⟩, ⟨bb_⟩⟩
       ·
        replace c8 := Bool.eq_false_iff.mpr c8; subst c8; replace H := Eq.trans (if_neg nf_).symm H; obtain rfl := Option.some.inj H; try go_wp2
        replace HB := Aside0.mk (below_drew1 HB.1); have p123 : 0 ≤ (x5_1 : Int) := od_; have q123 : x5_1 < (l0.length : Int) := od_; obtain ⟨ad123, e123, hx123_0, hx123_1, hx123_2, hx123_3, hx123_4⟩ := at_T96 HR0.1 x5_1 p123 q123; have hw123_4 := hx123_4; have hw123_3 := hx123_3; have hw123_2 := hx123_2; have hw123_1 := hx123_1; have hw123_0 := hx123_0; cases e123; have n_ := cl5_ HB.1 hx123_0 hx123_1 hx123_2 hx123_3 hx123_4; clear hx123_0 hx123_1 hx123_2 hx123_3 hx123_4; obtain ⟨hx123_0, hx123_1, hx123_2, hx123_3, hx123_4⟩ := n_; replace p123 := eq_true p123; replace q123 := eq_true q123; have p124 : 0 ≤ (x5_1 : Int) := od_; have q124 : x5_1 < (l1.length : Int) := od_; obtain ⟨ad124, e124, hx124_0, hx124_1, hx124_2, hx124_3, hx124_4⟩ := at_T96 HR1.1 x5_1 p124 q124; have hw124_4 := hx124_4; have hw124_3 := hx124_3; have hw124_2 := hx124_2; have hw124_1 := hx124_1; have hw124_0 := hx124_0; cases e124; have n_ := cl5_ HB.1 hx124_0 hx124_1 hx124_2 hx124_3 hx124_4; clear hx124_0 hx124_1 hx124_2 hx124_3 hx124_4; obtain ⟨hx124_0, hx124_1, hx124_2, hx124_3, hx124_4⟩ := n_; replace p124 := eq_true p124; replace q124 := eq_true q124
        refine start_ (n := 10) (S := fun w' => w'.cell? (ad123.add ((x5_1).toNat * 5)) = some (.int .i64 (rd_T96 l0 x5_1).f0) ∧ w'.cell? ⟨(ad123.add ((x5_1).toNat * 5)).block, (ad123.add ((x5_1).toNat * 5)).off + 1, none⟩ = some (.int .i64 (rd_T96 l0 x5_1).f1) ∧ w'.cell? ⟨(ad123.add ((x5_1).toNat * 5)).block, (ad123.add ((x5_1).toNat * 5)).off + 2, none⟩ = some (.int .i64 (rd_T96 l0 x5_1).f2) ∧ w'.cell? ⟨(ad123.add ((x5_1).toNat * 5)).block, (ad123.add ((x5_1).toNat * 5)).off + 3, none⟩ = some (.int .i64 (rd_T96 l0 x5_1).f3) ∧ w'.cell? ⟨(ad123.add ((x5_1).toNat * 5)).block, (ad123.add ((x5_1).toNat * 5)).off + 4, none⟩ = some (.int .i64 (rd_T96 l0 x5_1).f4) ∧ w'.cell? (ad124.add ((x5_1).toNat * 5)) = some (.int .i64 (rd_T96 l1 x5_1).f0) ∧ w'.cell? ⟨(ad124.add ((x5_1).toNat * 5)).block, (ad124.add ((x5_1).toNat * 5)).off + 1, none⟩ = some (.int .i64 (rd_T96 l1 x5_1).f1) ∧ w'.cell? ⟨(ad124.add ((x5_1).toNat * 5)).block, (ad124.add ((x5_1).toNat * 5)).off + 2, none⟩ = some (.int .i64 (rd_T96 l1 x5_1).f2) ∧ w'.cell? ⟨(ad124.add ((x5_1).toNat * 5)).block, (ad124.add ((x5_1).toNat * 5)).off + 3, none⟩ = some (.int .i64 (rd_T96 l1 x5_1).f3) ∧ w'.cell? ⟨(ad124.add ((x5_1).toNat * 5)).block, (ad124.add ((x5_1).toNat * 5)).off + 4, none⟩ = some (.int .i64 (rd_T96 l1 x5_1).f4)) (ds := []) (ba_ 10 0) kr_ rfl rfl ⟨(cl_ HB.1 hw123_0), (cl_ HB.1 hw123_1), (cl_ HB.1 hw123_2), (cl_ HB.1 hw123_3), (cl_ HB.1 hw123_4), (cl_ HB.1 hw124_0), (cl_ HB.1 hw124_1), (cl_ HB.1 hw124_2), (cl_ HB.1 hw124_3), (cl_ HB.1 hw124_4)⟩ (fun hHeld => ?_); refine with_tabW laws_eqLotS.tab6 laws_eqLotS.bits6 (fun HT_ HW_ => ?_)
        generalize wr.drew = w11 at HB hx123_0 hx123_1 hx123_2 hx123_3 hx123_4 hx124_0 hx124_1 hx124_2 hx124_3 hx124_4 hHeld ⊢
        refine pu_ 0 17 HT_.1 (ba_ 10 1) ?_; refine pu_ 1 18 HT_.1 (ba_ 10 3) ?_; refine pu_ 2 19 HT_.1 (ba_ 10 7) ?_; refine pu_ 4 21 HT_.1 (ba_ 10 23) ?_; refine pu_ 5 22 HT_.1 (ba_ 10 55) ?_; refine pu_ 6 23 HT_.1 (ba_ 10 119) ?_; refine ta_ 3 20 HT_.1 HW_.1 hHeld (ba_ 10 127) ?_; refine ta_ 7 24 HT_.1 HW_.1 hHeld (ba_ 10 255) ?_; refine one_ (i := 8) (N := some 25) (ba_ 10 511) rfl rfl (one_of HT_.1 kr_) (by decide) (fun K hK => ?_)
        refine goes_ Try.func78 kr_ rfl #[.agg #[.int .i64 (rd_T96 l0 x5_1).f0, .int .i64 (rd_T96 l0 x5_1).f1, .int .i64 (rd_T96 l0 x5_1).f2, .int .i64 (rd_T96 l0 x5_1).f3, .int .i64 (rd_T96 l0 x5_1).f4], .agg #[.int .i64 (rd_T96 l1 x5_1).f0, .int .i64 (rd_T96 l1 x5_1).f1, .int .i64 (rd_T96 l1 x5_1).f2, .int .i64 (rd_T96 l1 x5_1).f3, .int .i64 (rd_T96 l1 x5_1).f4]] (by rfl) rfl rfl (bc_) ?_
        with_reducible refine (laws_eqLot.calls (rd_T96 l0 x5_1).f0 (rd_T96 l0 x5_1).f1 (rd_T96 l0 x5_1).f2 (rd_T96 l0 x5_1).f3 (rd_T96 l0 x5_1).f4 (rd_T96 l1 x5_1).f0 (rd_T96 l1 x5_1).f1 (rd_T96 l1 x5_1).f2 (rd_T96 l1 x5_1).f3 (rd_T96 l1 x5_1).f4 false _ A7.1).mono ?_
        rintro e w12 ⟨rfl, hb⟩; refine ⟨_, rfl, ?_⟩
        replace HB := Aside0.mk (below_step (bb_) hb)
        
        
        
        
        refine hK.out _ _ ⟨(cl_ HB.1 hw123_0), (cl_ HB.1 hw123_1), (cl_ HB.1 hw123_2), (cl_ HB.1 hw123_3), (cl_ HB.1 hw123_4), (cl_ HB.1 hw124_0), (cl_ HB.1 hw124_1), (cl_ HB.1 hw124_2), (cl_ HB.1 hw124_3), (cl_ HB.1 hw124_4)⟩ (fun hHeld => ?_)
        clear hK K; refine norm_ (a' := ?_) ?_ ?_
        rotate_left
        ·
         show Act.put _ (some 25) _ = _
         exact sp_
        refine pu_ 9 26 HT_.1 (ba_ 10 1023) ?_; refine done_ (done_of HT_.1 kr_) ?_
        try go_wp2
        go_ret; exact ⟨er_, bb_⟩
      ·
       rw [if_neg c6] at H; exact absurd H (by simp)
     ·
      rw [if_neg c5] at H; exact absurd H (by simp)
    ·
     rw [if_neg c4] at H; have c4b0 : decide (x5_1 < (l0.length : Int)) = false := decide_eq_false c4; clear c4; obtain rfl := Option.some.inj H; go_wp2; go_ret; exact ⟨er_, bb_⟩
 ·
  rw [if_neg c3] at H; have c3b0 : ((l0.length : Int) == (l1.length : Int)) = false := beq_eq_false_iff_ne.mpr c3; have c3b1 : ((l0.length : Int) != (l1.length : Int)) = true := bne_iff_ne.mpr c3; have c3b2 : (l0.length == l1.length) = false := by first | simpa using c3 | (simp at c3 ⊢; omega)
  obtain rfl := Option.some.inj H; go_enter Try.func39, Try.ntmps39; go_wp2; go_ret; exact ⟨er_, bb_⟩
end Go.Proofs.Ytmfgajbkcnlkcaa.P
namespace Go.Proofs.Ytmfgajbkcnlkcaa
section
open Go Go.RowKit Go.Proofs.YtmfgajbkcnlkcaaW.PrintWords Go.Proofs.YtmfgajbkcnlkcaaW.PrintLast Go.Proofs.YtmfgajbkcnlkcaaW.PrintMore
theorem bg_ {q p : Prop} (g : q) (h : q → p := by intro g_; repeat (first | (with_reducible first | exact HB.out | apply below_alloc | apply pw_below_drewN | apply below_drew1 | refine below_set ?_ g_) | exact HB.out)) : p := h g
theorem ce6_ {w : World} {g : Nat} {t : TypeId} {v0 v1 v2 v3 v4 v5 : Value} (h : w.heap[g]? = some (.cells #[v0, v1, v2, v3, v4, v5] t (0, 0))) : w.cell? ⟨g, 0, none⟩ = some v0 ∧ w.cell? ⟨g, 1, none⟩ = some v1 ∧ w.cell? ⟨g, 2, none⟩ = some v2 ∧ w.cell? ⟨g, 3, none⟩ = some v3 ∧ w.cell? ⟨g, 4, none⟩ = some v4 ∧ w.cell? ⟨g, 5, none⟩ = some v5 ∧ w.frozen? ⟨g, 0, none⟩ = false ∧ w.frozen? ⟨g, 1, none⟩ = false ∧ w.frozen? ⟨g, 2, none⟩ = false ∧ w.frozen? ⟨g, 3, none⟩ = false ∧ w.frozen? ⟨g, 4, none⟩ = false ∧ w.frozen? ⟨g, 5, none⟩ = false := ⟨(blk_cell h 0).trans rfl, (blk_cell h 1).trans rfl, (blk_cell h 2).trans rfl, (blk_cell h 3).trans rfl, (blk_cell h 4).trans rfl, (blk_cell h 5).trans rfl, blk_frozen h 0, blk_frozen h 1, blk_frozen h 2, blk_frozen h 3, blk_frozen h 4, blk_frozen h 5⟩
theorem dr_ {p : Prop} (h : p := by repeat (first | exact Drawn0.refl _ | apply Drawn0.step)) : p := h
theorem cc_ {q p : Prop} (g : q) (h : q → p := by intro g_; repeat (first | exact g_ | (with_reducible refine Kd.C_alloc ?_ _) | (with_reducible refine Kd.C_drewN ?_ _) | (with_reducible refine Kd.C_drew ?_))) : p := h g
theorem as3_ {p0 p1 p2 : Prop} (x0 : p0) (x1 : p1) (x2 : p2) : Aside0 p0 ∧ Aside0 p1 ∧ Aside0 p2 := ⟨⟨x0⟩, ⟨x1⟩, ⟨x2⟩⟩
theorem bl_ {w0 W w' : World} {g : Nat} {o : Obj} (k : w0.heap[g]? = some o) (hb : Below W.heap.size W w') (h : w0.heap[g]? = some o → W.heap[g]? = some o := by intro g_; (with_reducible repeat (first | refine blk_drewN ?_ _ | refine blk_drew ?_ | refine blk_alloc ?_ _)); exact g_) : w'.heap[g]? = some o := blk_below (h k) hb
end
end Go.Proofs.Ytmfgajbkcnlkcaa
namespace Go.Proofs.Ytmfgajbkcnlkcaa.P
open Go.RowKit Go.Proofs.YtmfgajbkcnlkcaaW.PrintWords Go.Proofs.YtmfgajbkcnlkcaaW.PrintLast Go.Proofs.YtmfgajbkcnlkcaaW.PrintMore
attribute [local go_sem] max2_int min2_int max_two min_two max_three min_three max_four min_four   -- for this text's walks alone
set_option linter.unusedVariables false
set_option linter.unusedSimpArgs false
def laws_eqBooks.f (k : Nat) (l0_0 : List (S88)) (l0_1 : List (S90)) (l0_2 : List (S93)) (l0_3 : List (S96)) (l0_4 : List (S50)) (a0_5 : Int) (l1_0 : List (S88)) (l1_1 : List (S90)) (l1_2 : List (S93)) (l1_3 : List (S96)) (l1_4 : List (S50)) (a1_5 : Int) : Option (Bool) := (laws_eqAccountS.f k l0_0 l1_0).bind fun t128 => (if t128 = true then ((laws_eqInstrS.f k l0_1 l1_1).bind fun t129 => (if t129 = true then ((laws_eqBalS.f k l0_2 l1_2).bind fun t130 => (if t130 = true then ((laws_eqLotS.f k l0_3 l1_3).bind fun t131 => (if t131 = true then ((laws_eqTradeS.f k l0_4 l1_4).bind fun t132 => (if t132 = true then (if a0_5 = a1_5 then (some true) else (some false)) else (some false))) else (some false))) else (some false))) else (some false))) else (some false))
theorem laws_eqBooks.calls (k : Nat) (A0_0 : Option Addr) (c0_0 : Nat) (l0_0 : List (S88)) (A0_1 : Option Addr) (c0_1 : Nat) (l0_1 : List (S90)) (A0_2 : Option Addr) (c0_2 : Nat) (l0_2 : List (S93)) (A0_3 : Option Addr) (c0_3 : Nat) (l0_3 : List (S96)) (A0_4 : Option Addr) (c0_4 : Nat) (l0_4 : List (S50)) (a0_5 : Int) (A1_0 : Option Addr) (c1_0 : Nat) (l1_0 : List (S88)) (A1_1 : Option Addr) (c1_1 : Nat) (l1_1 : List (S90)) (A1_2 : Option Addr) (c1_2 : Nat) (l1_2 : List (S93)) (A1_3 : Option Addr) (c1_3 : Nat) (l1_3 : List (S96)) (A1_4 : Option Addr) (c1_4 : Nat) (l1_4 : List (S50)) (a1_5 : Int) (r : Bool) (w : World) (hr0_0 : Kd.C k88 w A0_0 l0_0.length l0_0) (hc0_0 : l0_0.length ≤ c0_0) (hr0_1 : Kd.C k90 w A0_1 l0_1.length l0_1) (hc0_1 : l0_1.length ≤ c0_1) (hr0_2 : Kd.C k93 w A0_2 l0_2.length l0_2) (hc0_2 : l0_2.length ≤ c0_2) (hr0_3 : Kd.C k96 w A0_3 l0_3.length l0_3) (hc0_3 : l0_3.length ≤ c0_3) (hr0_4 : Kd.C k50 w A0_4 l0_4.length l0_4) (hc0_4 : l0_4.length ≤ c0_4) (hr1_0 : Kd.C k88 w A1_0 l1_0.length l1_0) (hc1_0 : l1_0.length ≤ c1_0) (hr1_1 : Kd.C k90 w A1_1 l1_1.length l1_1) (hc1_1 : l1_1.length ≤ c1_1) (hr1_2 : Kd.C k93 w A1_2 l1_2.length l1_2) (hc1_2 : l1_2.length ≤ c1_2) (hr1_3 : Kd.C k96 w A1_3 l1_3.length l1_3) (hc1_3 : l1_3.length ≤ c1_3) (hr1_4 : Kd.C k50 w A1_4 l1_4.length l1_4) (hc1_4 : l1_4.length ≤ c1_4) (h : laws_eqBooks.f k l0_0 l0_1 l0_2 l0_3 l0_4 a0_5 l1_0 l1_1 l1_2 l1_3 l1_4 a1_5 = some r) :
 Calls Try.prog 15 #[.agg #[.slice A0_0 l0_0.length c0_0, .slice A0_1 l0_1.length c0_1, .slice A0_2 l0_2.length c0_2, .slice A0_3 l0_3.length c0_3, .slice A0_4 l0_4.length c0_4, .int .i64 a0_5], .agg #[.slice A1_0 l1_0.length c1_0, .slice A1_1 l1_1.length c1_1, .slice A1_2 l1_2.length c1_2, .slice A1_3 l1_3.length c1_3, .slice A1_4 l1_4.length c1_4, .int .i64 a1_5]] w fun e w' => e = .returned (.bool r) ∧ Below w.heap.size w w' := by
 have hu34 := Try.underlying34; have HR0_0 := Aside0.mk hr0_0; have HC0_0 := Aside0.mk hc0_0; clear hr0_0 hc0_0; have HR0_1 := Aside0.mk hr0_1; have HC0_1 := Aside0.mk hc0_1; clear hr0_1 hc0_1; have HR0_2 := Aside0.mk hr0_2; have HC0_2 := Aside0.mk hc0_2; clear hr0_2 hc0_2; have HR0_3 := Aside0.mk hr0_3; have HC0_3 := Aside0.mk hc0_3; clear hr0_3 hc0_3; have HR0_4 := Aside0.mk hr0_4; have HC0_4 := Aside0.mk hc0_4; clear hr0_4 hc0_4; have HR1_0 := Aside0.mk hr1_0; have HC1_0 := Aside0.mk hc1_0; clear hr1_0 hc1_0; have HR1_1 := Aside0.mk hr1_1; have HC1_1 := Aside0.mk hc1_1; clear hr1_1 hc1_1; have HR1_2 := Aside0.mk hr1_2; have HC1_2 := Aside0.mk hc1_2; clear hr1_2 hc1_2; have HR1_3 := Aside0.mk hr1_3; have HC1_3 := Aside0.mk hc1_3; clear hr1_3 hc1_3; have HR1_4 := Aside0.mk hr1_4; have HC1_4 := Aside0.mk hc1_4; clear hr1_4 hc1_4; have HB := Aside0.mk (Below.refl w.heap.size w); have H : ((laws_eqAccountS.f k l0_0 l1_0).bind fun t128 => (if t128 = true then ((laws_eqInstrS.f k l0_1 l1_1).bind fun t129 => (if t129 = true then ((laws_eqBalS.f k l0_2 l1_2).bind fun t130 => (if t130 = true then ((laws_eqLotS.f k l0_3 l1_3).bind fun t131 => (if t131 = true then ((laws_eqTradeS.f k l0_4 l1_4).bind fun t132 => (if t132 = true then (if a0_5 = a1_5 then (some true) else (some false)) else (some false))) else (some false))) else (some false))) else (some false))) else (some false))) = some r := h; clear h; replace H := Option.bind_eq_some_iff.mp H; obtain ⟨t128, A30, H⟩ := H
 have A3 := Aside0.mk A30; clear A30
 by_cases c4 : t128 = true
 ·
  subst c4; replace H := Eq.trans (if_pos rfl).symm H; replace H := Option.bind_eq_some_iff.mp H; obtain ⟨t129, A50, H⟩ := H; have A5 := Aside0.mk A50; clear A50
  by_cases c6 : t129 = true
  ·
   subst c6; replace H := Eq.trans (if_pos rfl).symm H; replace H := Option.bind_eq_some_iff.mp H; obtain ⟨t130, A70, H⟩ := H; have A7 := Aside0.mk A70; clear A70
   by_cases c8 : t130 = true
   ·
    subst c8; replace H := Eq.trans (if_pos rfl).symm H; replace H := Option.bind_eq_some_iff.mp H; obtain ⟨t131, A90, H⟩ := H; have A9 := Aside0.mk A90; clear A90
    by_cases c10 : t131 = true
    ·
     subst c10; replace H := Eq.trans (if_pos rfl).symm H; replace H := Option.bind_eq_some_iff.mp H; obtain ⟨t132, A110, H⟩ := H; have A11 := Aside0.mk A110; clear A110
     by_cases c12 : t132 = true
     ·
      subst c12; replace H := Eq.trans (if_pos rfl).symm H
      by_cases c13 : a0_5 = a1_5
      ·
       rw [if_pos c13] at H; have c13b0 : (a0_5 == a1_5) = true := beq_iff_eq.mpr c13; have c13b1 : (a0_5 != a1_5) = false := bne_eq_false_iff_eq.mpr c13; clear c13; obtain rfl := Option.some.inj H; go_enter Try.func15, Try.ntmps15
       go_wp2_with (first | ((with_reducible refine gate_dst (N := 2) rfl ?_); refine be_ 2 (cs := #[.slice A0_0 l0_0.length c0_0, .slice A0_1 l0_1.length c0_1, .slice A0_2 l0_2.length c0_2, .slice A0_3 l0_3.length c0_3, .slice A0_4 l0_4.length c0_4, .int .i64 a0_5]) (t := 34) ?_; intro gb126 hg w14 hbox hb; have n_ := bx_ hg hbox hb; clear HB; obtain ⟨HB, BK126, GW126, GE126⟩ := n_; clear hb hbox hg) | ((with_reducible refine gate_dst (N := 3) rfl ?_); refine be_ 3 (cs := #[.slice A1_0 l1_0.length c1_0, .slice A1_1 l1_1.length c1_1, .slice A1_2 l1_2.length c1_2, .slice A1_3 l1_3.length c1_3, .slice A1_4 l1_4.length c1_4, .int .i64 a1_5]) (t := 34) ?_; intro gb127 hg w15 hbox hb; have n_ := bz_ hg hbox hb BK126.1 GE126.1; clear BK126 HB; obtain ⟨BK126, HB, BK127, GW127, GE127, NB126_127, NB127_126⟩ := n_; clear hb hbox hg; have hnb16 := NB126_127.1; have hnc16 := NB127_126.1; obtain ⟨_, _, _, _, _, _, _, _, _, _, _, _⟩ := ce6_ BK126.1; obtain ⟨_, _, _, _, _, _, _, _, _, _, _, _⟩ := ce6_ BK127.1) | ((with_reducible refine gate_callee (f := 36) rfl ?_); refine goesL_ (some 9) rfl rfl Try.func36 kr_ rfl #[.slice A0_0 l0_0.length c0_0, .slice A1_0 l1_0.length c1_0] rfl (bc_) ?_; (with_reducible refine (laws_eqAccountS.calls k _ _ l0_0 _ _ l1_0 true _ ?side1 ?side2 ?side3 ?side4 A3.1).mono ?_); (case side1 => exact cc_ (Kd.C_below HR0_0.1 HB.1)); (case side2 => exact HC0_0.1); (case side3 => exact cc_ (Kd.C_below HR1_0.1 HB.1)); (case side4 => exact HC1_0.1); rintro e w19 ⟨rfl, hb⟩; refine ⟨_, rfl, ?_⟩; have n_ := as3_ (bl_ BK126.1 hb) (bl_ BK127.1 hb) (below_step (bh_ GE126.1 GE127.1) hb); clear BK126 BK127 HB; obtain ⟨BK126, BK127, HB⟩ := n_; (try clear hb); obtain ⟨_, _, _, _, _, _, _, _, _, _, _, _⟩ := ce6_ BK126.1; obtain ⟨_, _, _, _, _, _, _, _, _, _, _, _⟩ := ce6_ BK127.1) | ((with_reducible refine gate_callee (f := 37) rfl ?_); refine goesL_ (some 15) rfl rfl Try.func37 kr_ rfl #[.slice A0_1 l0_1.length c0_1, .slice A1_1 l1_1.length c1_1] rfl (bc_) ?_; (with_reducible refine (laws_eqInstrS.calls k _ _ l0_1 _ _ l1_1 true _ ?side1 ?side2 ?side3 ?side4 A5.1).mono ?_); (case side1 => exact cc_ (Kd.C_below HR0_1.1 HB.1)); (case side2 => exact HC0_1.1); (case side3 => exact cc_ (Kd.C_below HR1_1.1 HB.1)); (case side4 => exact HC1_1.1); rintro e w22 ⟨rfl, hb⟩; refine ⟨_, rfl, ?_⟩; have n_ := as3_ (bl_ BK126.1 hb) (bl_ BK127.1 hb) (below_step (bh_ GE126.1 GE127.1) hb); clear BK126 BK127 HB; obtain ⟨BK126, BK127, HB⟩ := n_; (try clear hb); obtain ⟨_, _, _, _, _, _, _, _, _, _, _, _⟩ := ce6_ BK126.1; obtain ⟨_, _, _, _, _, _, _, _, _, _, _, _⟩ := ce6_ BK127.1) | ((with_reducible refine gate_callee (f := 38) rfl ?_); refine goesL_ (some 21) rfl rfl Try.func38 kr_ rfl #[.slice A0_2 l0_2.length c0_2, .slice A1_2 l1_2.length c1_2] rfl (bc_) ?_; (with_reducible refine (laws_eqBalS.calls k _ _ l0_2 _ _ l1_2 true _ ?side1 ?side2 ?side3 ?side4 A7.1).mono ?_); (case side1 => exact cc_ (Kd.C_below HR0_2.1 HB.1)); (case side2 => exact HC0_2.1); (case side3 => exact cc_ (Kd.C_below HR1_2.1 HB.1)); (case side4 => exact HC1_2.1); rintro e w25 ⟨rfl, hb⟩; refine ⟨_, rfl, ?_⟩; have n_ := as3_ (bl_ BK126.1 hb) (bl_ BK127.1 hb) (below_step (bh_ GE126.1 GE127.1) hb); clear BK126 BK127 HB; obtain ⟨BK126, BK127, HB⟩ := n_; (try clear hb); obtain ⟨_, _, _, _, _, _, _, _, _, _, _, _⟩ := ce6_ BK126.1; obtain ⟨_, _, _, _, _, _, _, _, _, _, _, _⟩ := ce6_ BK127.1) | ((with_reducible refine gate_callee (f := 39) rfl ?_); refine goesL_ (some 27) rfl rfl Try.func39 kr_ rfl #[.slice A0_3 l0_3.length c0_3, .slice A1_3 l1_3.length c1_3] rfl (bc_) ?_; (with_reducible refine (laws_eqLotS.calls k _ _ l0_3 _ _ l1_3 true _ ?side1 ?side2 ?side3 ?side4 A9.1).mono ?_); (case side1 => exact cc_ (Kd.C_below HR0_3.1 HB.1)); (case side2 => exact HC0_3.1); (case side3 => exact cc_ (Kd.C_below HR1_3.1 HB.1)); (case side4 => exact HC1_3.1); rintro e w28 ⟨rfl, hb⟩; refine ⟨_, rfl, ?_⟩; have n_ := as3_ (bl_ BK126.1 hb) (bl_ BK127.1 hb) (below_step (bh_ GE126.1 GE127.1) hb); clear BK126 BK127 HB; obtain ⟨BK126, BK127, HB⟩ := n_; (try clear hb); obtain ⟨_, _, _, _, _, _, _, _, _, _, _, _⟩ := ce6_ BK126.1; obtain ⟨_, _, _, _, _, _, _, _, _, _, _, _⟩ := ce6_ BK127.1) | ((with_reducible refine gate_callee (f := 12) rfl ?_); refine goesL_ (some 33) rfl rfl Try.func12 kr_ rfl #[.slice A0_4 l0_4.length c0_4, .slice A1_4 l1_4.length c1_4] rfl (bc_) ?_; (with_reducible refine (laws_eqTradeS.calls k _ _ l0_4 _ _ l1_4 true _ ?side1 ?side2 ?side3 ?side4 A11.1).mono ?_); (case side1 => exact cc_ (Kd.C_below HR0_4.1 HB.1)); (case side2 => exact HC0_4.1); (case side3 => exact cc_ (Kd.C_below HR1_4.1 HB.1)); (case side4 => exact HC1_4.1); rintro e w31 ⟨rfl, hb⟩; refine ⟨_, rfl, ?_⟩; have n_ := as3_ (bl_ BK126.1 hb) (bl_ BK127.1 hb) (below_step (bh_ GE126.1 GE127.1) hb); clear BK126 BK127 HB; obtain ⟨BK126, BK127, HB⟩ := n_; (try clear hb); obtain ⟨_, _, _, _, _, _, _, _, _, _, _, _⟩ := ce6_ BK126.1; obtain ⟨_, _, _, _, _, _, _, _, _, _, _, _⟩ := ce6_ BK127.1))
       go_ret; exact ⟨er_, bh_ GE126.1 GE127.1⟩
      ·
       rw [if_neg c13] at H; have c13b0 : (a0_5 == a1_5) = false := beq_eq_false_iff_ne.mpr c13; have c13b1 : (a0_5 != a1_5) = true := bne_iff_ne.mpr c13; obtain rfl := Option.some.inj H; go_enter Try.func15, Try.ntmps15
       go_wp2_with (first | ((with_reducible refine gate_dst (N := 2) rfl ?_); refine be_ 2 (cs := #[.slice A0_0 l0_0.length c0_0, .slice A0_1 l0_1.length c0_1, .slice A0_2 l0_2.length c0_2, .slice A0_3 l0_3.length c0_3, .slice A0_4 l0_4.length c0_4, .int .i64 a0_5]) (t := 34) ?_; intro gb126 hg w34 hbox hb; have n_ := bx_ hg hbox hb; clear HB; obtain ⟨HB, BK126, GW126, GE126⟩ := n_; clear hb hbox hg) | ((with_reducible refine gate_dst (N := 3) rfl ?_); refine be_ 3 (cs := #[.slice A1_0 l1_0.length c1_0, .slice A1_1 l1_1.length c1_1, .slice A1_2 l1_2.length c1_2, .slice A1_3 l1_3.length c1_3, .slice A1_4 l1_4.length c1_4, .int .i64 a1_5]) (t := 34) ?_; intro gb127 hg w35 hbox hb; have n_ := bz_ hg hbox hb BK126.1 GE126.1; clear BK126 HB; obtain ⟨BK126, HB, BK127, GW127, GE127, NB126_127, NB127_126⟩ := n_; clear hb hbox hg; have hnb36 := NB126_127.1; have hnc36 := NB127_126.1; obtain ⟨_, _, _, _, _, _, _, _, _, _, _, _⟩ := ce6_ BK126.1; obtain ⟨_, _, _, _, _, _, _, _, _, _, _, _⟩ := ce6_ BK127.1) | ((with_reducible refine gate_callee (f := 36) rfl ?_); refine goesL_ (some 9) rfl rfl Try.func36 kr_ rfl #[.slice A0_0 l0_0.length c0_0, .slice A1_0 l1_0.length c1_0] rfl (bc_) ?_; (with_reducible refine (laws_eqAccountS.calls k _ _ l0_0 _ _ l1_0 true _ ?side1 ?side2 ?side3 ?side4 A3.1).mono ?_); (case side1 => exact cc_ (Kd.C_below HR0_0.1 HB.1)); (case side2 => exact HC0_0.1); (case side3 => exact cc_ (Kd.C_below HR1_0.1 HB.1)); (case side4 => exact HC1_0.1); rintro e w39 ⟨rfl, hb⟩; refine ⟨_, rfl, ?_⟩; have n_ := as3_ (bl_ BK126.1 hb) (bl_ BK127.1 hb) (below_step (bh_ GE126.1 GE127.1) hb); clear BK126 BK127 HB; obtain ⟨BK126, BK127, HB⟩ := n_; (try clear hb); obtain ⟨_, _, _, _, _, _, _, _, _, _, _, _⟩ := ce6_ BK126.1; obtain ⟨_, _, _, _, _, _, _, _, _, _, _, _⟩ := ce6_ BK127.1) | ((with_reducible refine gate_callee (f := 37) rfl ?_); refine goesL_ (some 15) rfl rfl Try.func37 kr_ rfl #[.slice A0_1 l0_1.length c0_1, .slice A1_1 l1_1.length c1_1] rfl (bc_) ?_; (with_reducible refine (laws_eqInstrS.calls k _ _ l0_1 _ _ l1_1 true _ ?side1 ?side2 ?side3 ?side4 A5.1).mono ?_); (case side1 => exact cc_ (Kd.C_below HR0_1.1 HB.1)); (case side2 => exact HC0_1.1); (case side3 => exact cc_ (Kd.C_below HR1_1.1 HB.1)); (case side4 => exact HC1_1.1); rintro e w42 ⟨rfl, hb⟩; refine ⟨_, rfl, ?_⟩; have n_ := as3_ (bl_ BK126.1 hb) (bl_ BK127.1 hb) (below_step (bh_ GE126.1 GE127.1) hb); clear BK126 BK127 HB; obtain ⟨BK126, BK127, HB⟩ := n_; (try clear hb); obtain ⟨_, _, _, _, _, _, _, _, _, _, _, _⟩ := ce6_ BK126.1; obtain ⟨_, _, _, _, _, _, _, _, _, _, _, _⟩ := ce6_ BK127.1) | ((with_reducible refine gate_callee (f := 38) rfl ?_); refine goesL_ (some 21) rfl rfl Try.func38 kr_ rfl #[.slice A0_2 l0_2.length c0_2, .slice A1_2 l1_2.length c1_2] rfl (bc_) ?_; (with_reducible refine (laws_eqBalS.calls k _ _ l0_2 _ _ l1_2 true _ ?side1 ?side2 ?side3 ?side4 A7.1).mono ?_); (case side1 => exact cc_ (Kd.C_below HR0_2.1 HB.1)); (case side2 => exact HC0_2.1); (case side3 => exact cc_ (Kd.C_below HR1_2.1 HB.1)); (case side4 => exact HC1_2.1); rintro e w45 ⟨rfl, hb⟩; refine ⟨_, rfl, ?_⟩; have n_ := as3_ (bl_ BK126.1 hb) (bl_ BK127.1 hb) (below_step (bh_ GE126.1 GE127.1) hb); clear BK126 BK127 HB; obtain ⟨BK126, BK127, HB⟩ := n_; (try clear hb); obtain ⟨_, _, _, _, _, _, _, _, _, _, _, _⟩ := ce6_ BK126.1; obtain ⟨_, _, _, _, _, _, _, _, _, _, _, _⟩ := ce6_ BK127.1) | ((with_reducible refine gate_callee (f := 39) rfl ?_); refine goesL_ (some 27) rfl rfl Try.func39 kr_ rfl #[.slice A0_3 l0_3.length c0_3, .slice A1_3 l1_3.length c1_3] rfl (bc_) ?_; (with_reducible refine (laws_eqLotS.calls k _ _ l0_3 _ _ l1_3 true _ ?side1 ?side2 ?side3 ?side4 A9.1).mono ?_); (case side1 => exact cc_ (Kd.C_below HR0_3.1 HB.1)); (case side2 => exact HC0_3.1); (case side3 => exact cc_ (Kd.C_below HR1_3.1 HB.1)); (case side4 => exact HC1_3.1); rintro e w48 ⟨rfl, hb⟩; refine ⟨_, rfl, ?_⟩; have n_ := as3_ (bl_ BK126.1 hb) (bl_ BK127.1 hb) (below_step (bh_ GE126.1 GE127.1) hb); clear BK126 BK127 HB; obtain ⟨BK126, BK127, HB⟩ := n_; (try clear hb); obtain ⟨_, _, _, _, _, _, _, _, _, _, _, _⟩ := ce6_ BK126.1; obtain ⟨_, _, _, _, _, _, _, _, _, _, _, _⟩ := ce6_ BK127.1) | ((with_reducible refine gate_callee (f := 12) rfl ?_); refine goesL_ (some 33) rfl rfl Try.func12 kr_ rfl #[.slice A0_4 l0_4.length c0_4, .slice A1_4 l1_4.length c1_4] rfl (bc_) ?_; (with_reducible refine (laws_eqTradeS.calls k _ _ l0_4 _ _ l1_4 true _ ?side1 ?side2 ?side3 ?side4 A11.1).mono ?_); (case side1 => exact cc_ (Kd.C_below HR0_4.1 HB.1)); (case side2 => exact HC0_4.1); (case side3 => exact cc_ (Kd.C_below HR1_4.1 HB.1)); (case side4 => exact HC1_4.1); rintro e w51 ⟨rfl, hb⟩; refine ⟨_, rfl, ?_⟩; have n_ := as3_ (bl_ BK126.1 hb) (bl_ BK127.1 hb) (below_step (bh_ GE126.1 GE127.1) hb); clear BK126 BK127 HB; obtain ⟨BK126, BK127, HB⟩ := n_; (try clear hb); obtain ⟨_, _, _, _, _, _, _, _, _, _, _, _⟩ := ce6_ BK126.1; obtain ⟨_, _, _, _, _, _, _, _, _, _, _, _⟩ := ce6_ BK127.1))
       go_ret; exact ⟨er_, bh_ GE126.1 GE127.1⟩
     ·
      replace c12 := Bool.eq_false_iff.mpr c12; subst c12; replace H := Eq.trans (if_neg nf_).symm H; obtain rfl := Option.some.inj H; go_enter Try.func15, Try.ntmps15
      go_wp2_with (first | ((with_reducible refine gate_dst (N := 2) rfl ?_); refine be_ 2 (cs := #[.slice A0_0 l0_0.length c0_0, .slice A0_1 l0_1.length c0_1, .slice A0_2 l0_2.length c0_2, .slice A0_3 l0_3.length c0_3, .slice A0_4 l0_4.length c0_4, .int .i64 a0_5]) (t := 34) ?_; intro gb126 hg w54 hbox hb; have n_ := bx_ hg hbox hb; clear HB; obtain ⟨HB, BK126, GW126, GE126⟩ := n_; clear hb hbox hg) | ((with_reducible refine gate_dst (N := 3) rfl ?_); refine be_ 3 (cs := #[.slice A1_0 l1_0.length c1_0, .slice A1_1 l1_1.length c1_1, .slice A1_2 l1_2.length c1_2, .slice A1_3 l1_3.length c1_3, .slice A1_4 l1_4.length c1_4, .int .i64 a1_5]) (t := 34) ?_; intro gb127 hg w55 hbox hb; have n_ := bz_ hg hbox hb BK126.1 GE126.1; clear BK126 HB; obtain ⟨BK126, HB, BK127, GW127, GE127, NB126_127, NB127_126⟩ := n_; clear hb hbox hg; have hnb56 := NB126_127.1; have hnc56 := NB127_126.1; obtain ⟨_, _, _, _, _, _, _, _, _, _, _, _⟩ := ce6_ BK126.1; obtain ⟨_, _, _, _, _, _, _, _, _, _, _, _⟩ := ce6_ BK127.1) | ((with_reducible refine gate_callee (f := 36) rfl ?_); refine goesL_ (some 9) rfl rfl Try.func36 kr_ rfl #[.slice A0_0 l0_0.length c0_0, .slice A1_0 l1_0.length c1_0] rfl (bc_) ?_; (with_reducible refine (laws_eqAccountS.calls k _ _ l0_0 _ _ l1_0 true _ ?side1 ?side2 ?side3 ?side4 A3.1).mono ?_); (case side1 => exact cc_ (Kd.C_below HR0_0.1 HB.1)); (case side2 => exact HC0_0.1); (case side3 => exact cc_ (Kd.C_below HR1_0.1 HB.1)); (case side4 => exact HC1_0.1); rintro e w59 ⟨rfl, hb⟩; refine ⟨_, rfl, ?_⟩; have n_ := as3_ (bl_ BK126.1 hb) (bl_ BK127.1 hb) (below_step (bh_ GE126.1 GE127.1) hb); clear BK126 BK127 HB; obtain ⟨BK126, BK127, HB⟩ := n_; (try clear hb); obtain ⟨_, _, _, _, _, _, _, _, _, _, _, _⟩ := ce6_ BK126.1; obtain ⟨_, _, _, _, _, _, _, _, _, _, _, _⟩ := ce6_ BK127.1) | ((with_reducible refine gate_callee (f := 37) rfl ?_); refine goesL_ (some 15) rfl rfl Try.func37 kr_ rfl #[.slice A0_1 l0_1.length c0_1, .slice A1_1 l1_1.length c1_1] rfl (bc_) ?_; (with_reducible refine (laws_eqInstrS.calls k _ _ l0_1 _ _ l1_1 true _ ?side1 ?side2 ?side3 ?side4 A5.1).mono ?_); (case side1 => exact cc_ (Kd.C_below HR0_1.1 HB.1)); (case side2 => exact HC0_1.1); (case side3 => exact cc_ (Kd.C_below HR1_1.1 HB.1)); (case side4 => exact HC1_1.1); rintro e w62 ⟨rfl, hb⟩; refine ⟨_, rfl, ?_⟩; have n_ := as3_ (bl_ BK126.1 hb) (bl_ BK127.1 hb) (below_step (bh_ GE126.1 GE127.1) hb); clear BK126 BK127 HB; obtain ⟨BK126, BK127, HB⟩ := n_; (try clear hb); obtain ⟨_, _, _, _, _, _, _, _, _, _, _, _⟩ := ce6_ BK126.1; obtain ⟨_, _, _, _, _, _, _, _, _, _, _, _⟩ := ce6_ BK127.1) | ((with_reducible refine gate_callee (f := 38) rfl ?_); refine goesL_ (some 21) rfl rfl Try.func38 kr_ rfl #[.slice A0_2 l0_2.length c0_2, .slice A1_2 l1_2.length c1_2] rfl (bc_) ?_; (with_reducible refine (laws_eqBalS.calls k _ _ l0_2 _ _ l1_2 true _ ?side1 ?side2 ?side3 ?side4 A7.1).mono ?_); (case side1 => exact cc_ (Kd.C_below HR0_2.1 HB.1)); (case side2 => exact HC0_2.1); (case side3 => exact cc_ (Kd.C_below HR1_2.1 HB.1)); (case side4 => exact HC1_2.1); rintro e w65 ⟨rfl, hb⟩; refine ⟨_, rfl, ?_⟩; have n_ := as3_ (bl_ BK126.1 hb) (bl_ BK127.1 hb) (below_step (bh_ GE126.1 GE127.1) hb); clear BK126 BK127 HB; obtain ⟨BK126, BK127, HB⟩ := n_; (try clear hb); obtain ⟨_, _, _, _, _, _, _, _, _, _, _, _⟩ := ce6_ BK126.1; obtain ⟨_, _, _, _, _, _, _, _, _, _, _, _⟩ := ce6_ BK127.1) | ((with_reducible refine gate_callee (f := 39) rfl ?_); refine goesL_ (some 27) rfl rfl Try.func39 kr_ rfl #[.slice A0_3 l0_3.length c0_3, .slice A1_3 l1_3.length c1_3] rfl (bc_) ?_; (with_reducible refine (laws_eqLotS.calls k _ _ l0_3 _ _ l1_3 true _ ?side1 ?side2 ?side3 ?side4 A9.1).mono ?_); (case side1 => exact cc_ (Kd.C_below HR0_3.1 HB.1)); (case side2 => exact HC0_3.1); (case side3 => exact cc_ (Kd.C_below HR1_3.1 HB.1)); (case side4 => exact HC1_3.1); rintro e w68 ⟨rfl, hb⟩; refine ⟨_, rfl, ?_⟩; have n_ := as3_ (bl_ BK126.1 hb) (bl_ BK127.1 hb) (below_step (bh_ GE126.1 GE127.1) hb); clear BK126 BK127 HB; obtain ⟨BK126, BK127, HB⟩ := n_; (try clear hb); obtain ⟨_, _, _, _, _, _, _, _, _, _, _, _⟩ := ce6_ BK126.1; obtain ⟨_, _, _, _, _, _, _, _, _, _, _, _⟩ := ce6_ BK127.1) | ((with_reducible refine gate_callee (f := 12) rfl ?_); refine goesL_ (some 33) rfl rfl Try.func12 kr_ rfl #[.slice A0_4 l0_4.length c0_4, .slice A1_4 l1_4.length c1_4] rfl (bc_) ?_; (with_reducible refine (laws_eqTradeS.calls k _ _ l0_4 _ _ l1_4 false _ ?side1 ?side2 ?side3 ?side4 A11.1).mono ?_); (case side1 => exact cc_ (Kd.C_below HR0_4.1 HB.1)); (case side2 => exact HC0_4.1); (case side3 => exact cc_ (Kd.C_below HR1_4.1 HB.1)); (case side4 => exact HC1_4.1); rintro e w71 ⟨rfl, hb⟩; refine ⟨_, rfl, ?_⟩; have n_ := as3_ (bl_ BK126.1 hb) (bl_ BK127.1 hb) (below_step (bh_ GE126.1 GE127.1) hb); clear BK126 BK127 HB; obtain ⟨BK126, BK127, HB⟩ := n_; (try clear hb)))
      go_ret; exact ⟨er_, bh_ GE126.1 GE127.1⟩
    ·
     replace c10 := Bool.eq_false_iff.mpr c10; subst c10; replace H := Eq.trans (if_neg nf_).symm H; obtain rfl := Option.some.inj H; go_enter Try.func15, Try.ntmps15
     go_wp2_with (first | ((with_reducible refine gate_dst (N := 2) rfl ?_); refine be_ 2 (cs := #[.slice A0_0 l0_0.length c0_0, .slice A0_1 l0_1.length c0_1, .slice A0_2 l0_2.length c0_2, .slice A0_3 l0_3.length c0_3, .slice A0_4 l0_4.length c0_4, .int .i64 a0_5]) (t := 34) ?_; intro gb126 hg w72 hbox hb; have n_ := bx_ hg hbox hb; clear HB; obtain ⟨HB, BK126, GW126, GE126⟩ := n_; clear hb hbox hg) | ((with_reducible refine gate_dst (N := 3) rfl ?_); refine be_ 3 (cs := #[.slice A1_0 l1_0.length c1_0, .slice A1_1 l1_1.length c1_1, .slice A1_2 l1_2.length c1_2, .slice A1_3 l1_3.length c1_3, .slice A1_4 l1_4.length c1_4, .int .i64 a1_5]) (t := 34) ?_; intro gb127 hg w73 hbox hb; have n_ := bz_ hg hbox hb BK126.1 GE126.1; clear BK126 HB; obtain ⟨BK126, HB, BK127, GW127, GE127, NB126_127, NB127_126⟩ := n_; clear hb hbox hg; have hnb74 := NB126_127.1; have hnc74 := NB127_126.1; obtain ⟨_, _, _, _, _, _, _, _, _, _, _, _⟩ := ce6_ BK126.1; obtain ⟨_, _, _, _, _, _, _, _, _, _, _, _⟩ := ce6_ BK127.1) | ((with_reducible refine gate_callee (f := 36) rfl ?_); refine goesL_ (some 9) rfl rfl Try.func36 kr_ rfl #[.slice A0_0 l0_0.length c0_0, .slice A1_0 l1_0.length c1_0] rfl (bc_) ?_; (with_reducible refine (laws_eqAccountS.calls k _ _ l0_0 _ _ l1_0 true _ ?side1 ?side2 ?side3 ?side4 A3.1).mono ?_); (case side1 => exact cc_ (Kd.C_below HR0_0.1 HB.1)); (case side2 => exact HC0_0.1); (case side3 => exact cc_ (Kd.C_below HR1_0.1 HB.1)); (case side4 => exact HC1_0.1); rintro e w77 ⟨rfl, hb⟩; refine ⟨_, rfl, ?_⟩; have n_ := as3_ (bl_ BK126.1 hb) (bl_ BK127.1 hb) (below_step (bh_ GE126.1 GE127.1) hb); clear BK126 BK127 HB; obtain ⟨BK126, BK127, HB⟩ := n_; (try clear hb); obtain ⟨_, _, _, _, _, _, _, _, _, _, _, _⟩ := ce6_ BK126.1; obtain ⟨_, _, _, _, _, _, _, _, _, _, _, _⟩ := ce6_ BK127.1) | ((with_reducible refine gate_callee (f := 37) rfl ?_); refine goesL_ (some 15) rfl rfl Try.func37 kr_ rfl #[.slice A0_1 l0_1.length c0_1, .slice A1_1 l1_1.length c1_1] rfl (bc_) ?_; (with_reducible refine (laws_eqInstrS.calls k _ _ l0_1 _ _ l1_1 true _ ?side1 ?side2 ?side3 ?side4 A5.1).mono ?_); (case side1 => exact cc_ (Kd.C_below HR0_1.1 HB.1)); (case side2 => exact HC0_1.1); (case side3 => exact cc_ (Kd.C_below HR1_1.1 HB.1)); (case side4 => exact HC1_1.1); rintro e w80 ⟨rfl, hb⟩; refine ⟨_, rfl, ?_⟩; have n_ := as3_ (bl_ BK126.1 hb) (bl_ BK127.1 hb) (below_step (bh_ GE126.1 GE127.1) hb); clear BK126 BK127 HB; obtain ⟨BK126, BK127, HB⟩ := n_; (try clear hb); obtain ⟨_, _, _, _, _, _, _, _, _, _, _, _⟩ := ce6_ BK126.1; obtain ⟨_, _, _, _, _, _, _, _, _, _, _, _⟩ := ce6_ BK127.1) | ((with_reducible refine gate_callee (f := 38) rfl ?_); refine goesL_ (some 21) rfl rfl Try.func38 kr_ rfl #[.slice A0_2 l0_2.length c0_2, .slice A1_2 l1_2.length c1_2] rfl (bc_) ?_; (with_reducible refine (laws_eqBalS.calls k _ _ l0_2 _ _ l1_2 true _ ?side1 ?side2 ?side3 ?side4 A7.1).mono ?_); (case side1 => exact cc_ (Kd.C_below HR0_2.1 HB.1)); (case side2 => exact HC0_2.1); (case side3 => exact cc_ (Kd.C_below HR1_2.1 HB.1)); (case side4 => exact HC1_2.1); rintro e w83 ⟨rfl, hb⟩; refine ⟨_, rfl, ?_⟩; have n_ := as3_ (bl_ BK126.1 hb) (bl_ BK127.1 hb) (below_step (bh_ GE126.1 GE127.1) hb); clear BK126 BK127 HB; obtain ⟨BK126, BK127, HB⟩ := n_; (try clear hb); obtain ⟨_, _, _, _, _, _, _, _, _, _, _, _⟩ := ce6_ BK126.1; obtain ⟨_, _, _, _, _, _, _, _, _, _, _, _⟩ := ce6_ BK127.1) | ((with_reducible refine gate_callee (f := 39) rfl ?_); refine goesL_ (some 27) rfl rfl Try.func39 kr_ rfl #[.slice A0_3 l0_3.length c0_3, .slice A1_3 l1_3.length c1_3] rfl (bc_) ?_; (with_reducible refine (laws_eqLotS.calls k _ _ l0_3 _ _ l1_3 false _ ?side1 ?side2 ?side3 ?side4 A9.1).mono ?_); (case side1 => exact cc_ (Kd.C_below HR0_3.1 HB.1)); (case side2 => exact HC0_3.1); (case side3 => exact cc_ (Kd.C_below HR1_3.1 HB.1)); (case side4 => exact HC1_3.1); rintro e w86 ⟨rfl, hb⟩; refine ⟨_, rfl, ?_⟩; have n_ := as3_ (bl_ BK126.1 hb) (bl_ BK127.1 hb) (below_step (bh_ GE126.1 GE127.1) hb); clear BK126 BK127 HB; obtain ⟨BK126, BK127, HB⟩ := n_; (try clear hb)))
     go_ret; exact ⟨er_, bh_ GE126.1 GE127.1⟩
   ·
    replace c8 := Bool.eq_false_iff.mpr c8; subst c8; replace H := Eq.trans (if_neg nf_).symm H; obtain rfl := Option.some.inj H; go_enter Try.func15, Try.ntmps15
    go_wp2_with (first | ((with_reducible refine gate_dst (N := 2) rfl ?_); refine be_ 2 (cs := #[.slice A0_0 l0_0.length c0_0, .slice A0_1 l0_1.length c0_1, .slice A0_2 l0_2.length c0_2, .slice A0_3 l0_3.length c0_3, .slice A0_4 l0_4.length c0_4, .int .i64 a0_5]) (t := 34) ?_; intro gb126 hg w87 hbox hb; have n_ := bx_ hg hbox hb; clear HB; obtain ⟨HB, BK126, GW126, GE126⟩ := n_; clear hb hbox hg) | ((with_reducible refine gate_dst (N := 3) rfl ?_); refine be_ 3 (cs := #[.slice A1_0 l1_0.length c1_0, .slice A1_1 l1_1.length c1_1, .slice A1_2 l1_2.length c1_2, .slice A1_3 l1_3.length c1_3, .slice A1_4 l1_4.length c1_4, .int .i64 a1_5]) (t := 34) ?_; intro gb127 hg w88 hbox hb; have n_ := bz_ hg hbox hb BK126.1 GE126.1; clear BK126 HB; obtain ⟨BK126, HB, BK127, GW127, GE127, NB126_127, NB127_126⟩ := n_; clear hb hbox hg; have hnb89 := NB126_127.1; have hnc89 := NB127_126.1; obtain ⟨_, _, _, _, _, _, _, _, _, _, _, _⟩ := ce6_ BK126.1; obtain ⟨_, _, _, _, _, _, _, _, _, _, _, _⟩ := ce6_ BK127.1) | ((with_reducible refine gate_callee (f := 36) rfl ?_); refine goesL_ (some 9) rfl rfl Try.func36 kr_ rfl #[.slice A0_0 l0_0.length c0_0, .slice A1_0 l1_0.length c1_0] rfl (bc_) ?_; (with_reducible refine (laws_eqAccountS.calls k _ _ l0_0 _ _ l1_0 true _ ?side1 ?side2 ?side3 ?side4 A3.1).mono ?_); (case side1 => exact cc_ (Kd.C_below HR0_0.1 HB.1)); (case side2 => exact HC0_0.1); (case side3 => exact cc_ (Kd.C_below HR1_0.1 HB.1)); (case side4 => exact HC1_0.1); rintro e w92 ⟨rfl, hb⟩; refine ⟨_, rfl, ?_⟩; have n_ := as3_ (bl_ BK126.1 hb) (bl_ BK127.1 hb) (below_step (bh_ GE126.1 GE127.1) hb); clear BK126 BK127 HB; obtain ⟨BK126, BK127, HB⟩ := n_; (try clear hb); obtain ⟨_, _, _, _, _, _, _, _, _, _, _, _⟩ := ce6_ BK126.1; obtain ⟨_, _, _, _, _, _, _, _, _, _, _, _⟩ := ce6_ BK127.1) | ((with_reducible refine gate_callee (f := 37) rfl ?_); refine goesL_ (some 15) rfl rfl Try.func37 kr_ rfl #[.slice A0_1 l0_1.length c0_1, .slice A1_1 l1_1.length c1_1] rfl (bc_) ?_; (with_reducible refine (laws_eqInstrS.calls k _ _ l0_1 _ _ l1_1 true _ ?side1 ?side2 ?side3 ?side4 A5.1).mono ?_); (case side1 => exact cc_ (Kd.C_below HR0_1.1 HB.1)); (case side2 => exact HC0_1.1); (case side3 => exact cc_ (Kd.C_below HR1_1.1 HB.1)); (case side4 => exact HC1_1.1); rintro e w95 ⟨rfl, hb⟩; refine ⟨_, rfl, ?_⟩; have n_ := as3_ (bl_ BK126.1 hb) (bl_ BK127.1 hb) (below_step (bh_ GE126.1 GE127.1) hb); clear BK126 BK127 HB; obtain ⟨BK126, BK127, HB⟩ := n_; (try clear hb); obtain ⟨_, _, _, _, _, _, _, _, _, _, _, _⟩ := ce6_ BK126.1; obtain ⟨_, _, _, _, _, _, _, _, _, _, _, _⟩ := ce6_ BK127.1) | ((with_reducible refine gate_callee (f := 38) rfl ?_); refine goesL_ (some 21) rfl rfl Try.func38 kr_ rfl #[.slice A0_2 l0_2.length c0_2, .slice A1_2 l1_2.length c1_2] rfl (bc_) ?_; (with_reducible refine (laws_eqBalS.calls k _ _ l0_2 _ _ l1_2 false _ ?side1 ?side2 ?side3 ?side4 A7.1).mono ?_); (case side1 => exact cc_ (Kd.C_below HR0_2.1 HB.1)); (case side2 => exact HC0_2.1); (case side3 => exact cc_ (Kd.C_below HR1_2.1 HB.1)); (case side4 => exact HC1_2.1); rintro e w98 ⟨rfl, hb⟩; refine ⟨_, rfl, ?_⟩; have n_ := as3_ (bl_ BK126.1 hb) (bl_ BK127.1 hb) (below_step (bh_ GE126.1 GE127.1) hb); clear BK126 BK127 HB; obtain ⟨BK126, BK127, HB⟩ := n_; (try clear hb)))
    go_ret; exact ⟨er_, bh_ GE126.1 GE127.1⟩
  ·
   replace c6 := Bool.eq_false_iff.mpr c6; subst c6; replace H := Eq.trans (if_neg nf_).symm H; obtain rfl := Option.some.inj H; go_enter Try.func15, Try.ntmps15
   go_wp2_with (first | ((with_reducible refine gate_dst (N := 2) rfl ?_); refine be_ 2 (cs := #[.slice A0_0 l0_0.length c0_0, .slice A0_1 l0_1.length c0_1, .slice A0_2 l0_2.length c0_2, .slice A0_3 l0_3.length c0_3, .slice A0_4 l0_4.length c0_4, .int .i64 a0_5]) (t := 34) ?_; intro gb126 hg w99 hbox hb; have n_ := bx_ hg hbox hb; clear HB; obtain ⟨HB, BK126, GW126, GE126⟩ := n_; clear hb hbox hg) | ((with_reducible refine gate_dst (N := 3) rfl ?_); refine be_ 3 (cs := #[.slice A1_0 l1_0.length c1_0, .slice A1_1 l1_1.length c1_1, .slice A1_2 l1_2.length c1_2, .slice A1_3 l1_3.length c1_3, .slice A1_4 l1_4.length c1_4, .int .i64 a1_5]) (t := 34) ?_; intro gb127 hg w100 hbox hb; have n_ := bz_ hg hbox hb BK126.1 GE126.1; clear BK126 HB; obtain ⟨BK126, HB, BK127, GW127, GE127, NB126_127, NB127_126⟩ := n_; clear hb hbox hg; have hnb101 := NB126_127.1; have hnc101 := NB127_126.1; obtain ⟨_, _, _, _, _, _, _, _, _, _, _, _⟩ := ce6_ BK126.1; obtain ⟨_, _, _, _, _, _, _, _, _, _, _, _⟩ := ce6_ BK127.1) | ((with_reducible refine gate_callee (f := 36) rfl ?_); refine goesL_ (some 9) rfl rfl Try.func36 kr_ rfl #[.slice A0_0 l0_0.length c0_0, .slice A1_0 l1_0.length c1_0] rfl (bc_) ?_; (with_reducible refine (laws_eqAccountS.calls k _ _ l0_0 _ _ l1_0 true _ ?side1 ?side2 ?side3 ?side4 A3.1).mono ?_); (case side1 => exact cc_ (Kd.C_below HR0_0.1 HB.1)); (case side2 => exact HC0_0.1); (case side3 => exact cc_ (Kd.C_below HR1_0.1 HB.1)); (case side4 => exact HC1_0.1); rintro e w104 ⟨rfl, hb⟩; refine ⟨_, rfl, ?_⟩; have n_ := as3_ (bl_ BK126.1 hb) (bl_ BK127.1 hb) (below_step (bh_ GE126.1 GE127.1) hb); clear BK126 BK127 HB; obtain ⟨BK126, BK127, HB⟩ := n_; (try clear hb); obtain ⟨_, _, _, _, _, _, _, _, _, _, _, _⟩ := ce6_ BK126.1; obtain ⟨_, _, _, _, _, _, _, _, _, _, _, _⟩ := ce6_ BK127.1) | ((with_reducible refine gate_callee (f := 37) rfl ?_); refine goesL_ (some 15) rfl rfl Try.func37 kr_ rfl #[.slice A0_1 l0_1.length c0_1, .slice A1_1 l1_1.length c1_1] rfl (bc_) ?_; (with_reducible refine (laws_eqInstrS.calls k _ _ l0_1 _ _ l1_1 false _ ?side1 ?side2 ?side3 ?side4 A5.1).mono ?_); (case side1 => exact cc_ (Kd.C_below HR0_1.1 HB.1)); (case side2 => exact HC0_1.1); (case side3 => exact cc_ (Kd.C_below HR1_1.1 HB.1)); (case side4 => exact HC1_1.1); rintro e w107 ⟨rfl, hb⟩; refine ⟨_, rfl, ?_⟩; have n_ := as3_ (bl_ BK126.1 hb) (bl_ BK127.1 hb) (below_step (bh_ GE126.1 GE127.1) hb); clear BK126 BK127 HB; obtain ⟨BK126, BK127, HB⟩ := n_; (try clear hb)))
   go_ret; exact ⟨er_, bh_ GE126.1 GE127.1⟩
 ·
  replace c4 := Bool.eq_false_iff.mpr c4; subst c4; replace H := Eq.trans (if_neg nf_).symm H; obtain rfl := Option.some.inj H; go_enter Try.func15, Try.ntmps15
  go_wp2_with (first | ((with_reducible refine gate_dst (N := 2) rfl ?_); refine be_ 2 (cs := #[.slice A0_0 l0_0.length c0_0, .slice A0_1 l0_1.length c0_1, .slice A0_2 l0_2.length c0_2, .slice A0_3 l0_3.length c0_3, .slice A0_4 l0_4.length c0_4, .int .i64 a0_5]) (t := 34) ?_; intro gb126 hg w108 hbox hb; have n_ := bx_ hg hbox hb; clear HB; obtain ⟨HB, BK126, GW126, GE126⟩ := n_; clear hb hbox hg) | ((with_reducible refine gate_dst (N := 3) rfl ?_); refine be_ 3 (cs := #[.slice A1_0 l1_0.length c1_0, .slice A1_1 l1_1.length c1_1, .slice A1_2 l1_2.length c1_2, .slice A1_3 l1_3.length c1_3, .slice A1_4 l1_4.length c1_4, .int .i64 a1_5]) (t := 34) ?_; intro gb127 hg w109 hbox hb; have n_ := bz_ hg hbox hb BK126.1 GE126.1; clear BK126 HB; obtain ⟨BK126, HB, BK127, GW127, GE127, NB126_127, NB127_126⟩ := n_; clear hb hbox hg; have hnb110 := NB126_127.1; have hnc110 := NB127_126.1; obtain ⟨_, _, _, _, _, _, _, _, _, _, _, _⟩ := ce6_ BK126.1; obtain ⟨_, _, _, _, _, _, _, _, _, _, _, _⟩ := ce6_ BK127.1) | ((with_reducible refine gate_callee (f := 36) rfl ?_); refine goesL_ (some 9) rfl rfl Try.func36 kr_ rfl #[.slice A0_0 l0_0.length c0_0, .slice A1_0 l1_0.length c1_0] rfl (bc_) ?_; (with_reducible refine (laws_eqAccountS.calls k _ _ l0_0 _ _ l1_0 false _ ?side1 ?side2 ?side3 ?side4 A3.1).mono ?_); (case side1 => exact cc_ (Kd.C_below HR0_0.1 HB.1)); (case side2 => exact HC0_0.1); (case side3 => exact cc_ (Kd.C_below HR1_0.1 HB.1)); (case side4 => exact HC1_0.1); rintro e w113 ⟨rfl, hb⟩; refine ⟨_, rfl, ?_⟩; have n_ := as3_ (bl_ BK126.1 hb) (bl_ BK127.1 hb) (below_step (bh_ GE126.1 GE127.1) hb); clear BK126 BK127 HB; obtain ⟨BK126, BK127, HB⟩ := n_; (try clear hb)))
  go_ret; exact ⟨er_, bh_ GE126.1 GE127.1⟩
def laws_szTradeS.f (l0 : List (S64)) (a1 : Int) : Option (Int) := if (wrap64 (a1 - (l0.length : Int))) < 0 then (some (-1)) else (some (wrap64 (a1 - (l0.length : Int))))
theorem laws_szTradeS.calls (A0 : Option Addr) (c0 : Nat) (l0 : List (S64)) (a1 : Int) (r : Int) (w : World) (hr0 : Kd.C k64 w A0 l0.length l0) (hc0 : l0.length ≤ c0) (h : laws_szTradeS.f l0 a1 = some r) :
 Calls Try.prog 8 #[.slice A0 l0.length c0, .int .i64 a1] w fun e w' => e = .returned (.int .i64 r) ∧ Drawn0 w w' := by
 have HR0 := Aside0.mk hr0; have HC0 := Aside0.mk hc0; clear hr0 hc0; have H : (if (wrap64 (a1 - (l0.length : Int))) < 0 then (some (-1)) else (some (wrap64 (a1 - (l0.length : Int))))) = some r := h; clear h
 by_cases c3 : (wrap64 (a1 - (l0.length : Int))) < 0
 ·
  rw [if_pos c3] at H; have c3b0 : decide ((wrap64 (a1 - (l0.length : Int))) < 0) = true := decide_eq_true c3; clear c3; obtain rfl := Option.some.inj H; go_enter Try.func8, Try.ntmps8; go_wp2; go_ret; exact ⟨rs_, dr_⟩
 ·
  rw [if_neg c3] at H; have c3b0 : decide ((wrap64 (a1 - (l0.length : Int))) < 0) = false := decide_eq_false c3; clear c3; obtain rfl := Option.some.inj H; go_enter Try.func8, Try.ntmps8; go_wp2; go_ret; exact ⟨rs_, dr_⟩
def laws_szAccountS.f (l0 : List (S106)) (a1 : Int) : Option (Int) := if (wrap64 (a1 - (l0.length : Int))) < 0 then (some (-1)) else (some (wrap64 (a1 - (l0.length : Int))))
theorem laws_szAccountS.calls (A0 : Option Addr) (c0 : Nat) (l0 : List (S106)) (a1 : Int) (r : Int) (w : World) (hr0 : Kd.C k106 w A0 l0.length l0) (hc0 : l0.length ≤ c0) (h : laws_szAccountS.f l0 a1 = some r) :
 Calls Try.prog 50 #[.slice A0 l0.length c0, .int .i64 a1] w fun e w' => e = .returned (.int .i64 r) ∧ Drawn0 w w' := by
 have HR0 := Aside0.mk hr0; have HC0 := Aside0.mk hc0; clear hr0 hc0; have H : (if (wrap64 (a1 - (l0.length : Int))) < 0 then (some (-1)) else (some (wrap64 (a1 - (l0.length : Int))))) = some r := h; clear h
 by_cases c3 : (wrap64 (a1 - (l0.length : Int))) < 0
 ·
  rw [if_pos c3] at H; have c3b0 : decide ((wrap64 (a1 - (l0.length : Int))) < 0) = true := decide_eq_true c3; clear c3; obtain rfl := Option.some.inj H; go_enter Try.func50, Try.ntmps50; go_wp2; go_ret; exact ⟨rs_, dr_⟩
 ·
  rw [if_neg c3] at H; have c3b0 : decide ((wrap64 (a1 - (l0.length : Int))) < 0) = false := decide_eq_false c3; clear c3; obtain rfl := Option.some.inj H; go_enter Try.func50, Try.ntmps50; go_wp2; go_ret; exact ⟨rs_, dr_⟩
def laws_szInstrS.f (l0 : List (S108)) (a1 : Int) : Option (Int) := if (wrap64 (a1 - (l0.length : Int))) < 0 then (some (-1)) else (some (wrap64 (a1 - (l0.length : Int))))
theorem laws_szInstrS.calls (A0 : Option Addr) (c0 : Nat) (l0 : List (S108)) (a1 : Int) (r : Int) (w : World) (hr0 : Kd.C k108 w A0 l0.length l0) (hc0 : l0.length ≤ c0) (h : laws_szInstrS.f l0 a1 = some r) :
 Calls Try.prog 51 #[.slice A0 l0.length c0, .int .i64 a1] w fun e w' => e = .returned (.int .i64 r) ∧ Drawn0 w w' := by
 have HR0 := Aside0.mk hr0; have HC0 := Aside0.mk hc0; clear hr0 hc0; have H : (if (wrap64 (a1 - (l0.length : Int))) < 0 then (some (-1)) else (some (wrap64 (a1 - (l0.length : Int))))) = some r := h; clear h
 by_cases c3 : (wrap64 (a1 - (l0.length : Int))) < 0
 ·
  rw [if_pos c3] at H; have c3b0 : decide ((wrap64 (a1 - (l0.length : Int))) < 0) = true := decide_eq_true c3; clear c3; obtain rfl := Option.some.inj H; go_enter Try.func51, Try.ntmps51; go_wp2; go_ret; exact ⟨rs_, dr_⟩
 ·
  rw [if_neg c3] at H; have c3b0 : decide ((wrap64 (a1 - (l0.length : Int))) < 0) = false := decide_eq_false c3; clear c3; obtain rfl := Option.some.inj H; go_enter Try.func51, Try.ntmps51; go_wp2; go_ret; exact ⟨rs_, dr_⟩
def laws_szBalS.f (l0 : List (S110)) (a1 : Int) : Option (Int) := if (wrap64 (a1 - (l0.length : Int))) < 0 then (some (-1)) else (some (wrap64 (a1 - (l0.length : Int))))
theorem laws_szBalS.calls (A0 : Option Addr) (c0 : Nat) (l0 : List (S110)) (a1 : Int) (r : Int) (w : World) (hr0 : Kd.C k110 w A0 l0.length l0) (hc0 : l0.length ≤ c0) (h : laws_szBalS.f l0 a1 = some r) :
 Calls Try.prog 52 #[.slice A0 l0.length c0, .int .i64 a1] w fun e w' => e = .returned (.int .i64 r) ∧ Drawn0 w w' := by
 have HR0 := Aside0.mk hr0; have HC0 := Aside0.mk hc0; clear hr0 hc0; have H : (if (wrap64 (a1 - (l0.length : Int))) < 0 then (some (-1)) else (some (wrap64 (a1 - (l0.length : Int))))) = some r := h; clear h
 by_cases c3 : (wrap64 (a1 - (l0.length : Int))) < 0
 ·
  rw [if_pos c3] at H; have c3b0 : decide ((wrap64 (a1 - (l0.length : Int))) < 0) = true := decide_eq_true c3; clear c3; obtain rfl := Option.some.inj H; go_enter Try.func52, Try.ntmps52; go_wp2; go_ret; exact ⟨rs_, dr_⟩
 ·
  rw [if_neg c3] at H; have c3b0 : decide ((wrap64 (a1 - (l0.length : Int))) < 0) = false := decide_eq_false c3; clear c3; obtain rfl := Option.some.inj H; go_enter Try.func52, Try.ntmps52; go_wp2; go_ret; exact ⟨rs_, dr_⟩
def laws_szLotS.f (l0 : List (S112)) (a1 : Int) : Option (Int) := if (wrap64 (a1 - (l0.length : Int))) < 0 then (some (-1)) else (some (wrap64 (a1 - (l0.length : Int))))
theorem laws_szLotS.calls (A0 : Option Addr) (c0 : Nat) (l0 : List (S112)) (a1 : Int) (r : Int) (w : World) (hr0 : Kd.C k112 w A0 l0.length l0) (hc0 : l0.length ≤ c0) (h : laws_szLotS.f l0 a1 = some r) :
 Calls Try.prog 53 #[.slice A0 l0.length c0, .int .i64 a1] w fun e w' => e = .returned (.int .i64 r) ∧ Drawn0 w w' := by
 have HR0 := Aside0.mk hr0; have HC0 := Aside0.mk hc0; clear hr0 hc0; have H : (if (wrap64 (a1 - (l0.length : Int))) < 0 then (some (-1)) else (some (wrap64 (a1 - (l0.length : Int))))) = some r := h; clear h
 by_cases c3 : (wrap64 (a1 - (l0.length : Int))) < 0
 ·
  rw [if_pos c3] at H; have c3b0 : decide ((wrap64 (a1 - (l0.length : Int))) < 0) = true := decide_eq_true c3; clear c3; obtain rfl := Option.some.inj H; go_enter Try.func53, Try.ntmps53; go_wp2; go_ret; exact ⟨rs_, dr_⟩
 ·
  rw [if_neg c3] at H; have c3b0 : decide ((wrap64 (a1 - (l0.length : Int))) < 0) = false := decide_eq_false c3; clear c3; obtain rfl := Option.some.inj H; go_enter Try.func53, Try.ntmps53; go_wp2; go_ret; exact ⟨rs_, dr_⟩
def laws_szBooks.f (l0_0 : List (S106)) (l0_1 : List (S108)) (l0_2 : List (S110)) (l0_3 : List (S112)) (l0_4 : List (S64)) (a0_5 : Int) (a1 : Int) : Option (Int) := (laws_szAccountS.f l0_0 a1).bind fun t134 => (if t134 < 0 then (some (-1)) else ((laws_szInstrS.f l0_1 t134).bind fun t135 => (if t135 < 0 then (some (-1)) else ((laws_szBalS.f l0_2 t135).bind fun t136 => (if t136 < 0 then (some (-1)) else ((laws_szLotS.f l0_3 t136).bind fun t137 => (if t137 < 0 then (some (-1)) else ((laws_szTradeS.f l0_4 t137).bind fun t138 => (if t138 < 0 then (some (-1)) else (some t138))))))))))
theorem laws_szBooks.calls (A0_0 : Option Addr) (c0_0 : Nat) (l0_0 : List (S106)) (A0_1 : Option Addr) (c0_1 : Nat) (l0_1 : List (S108)) (A0_2 : Option Addr) (c0_2 : Nat) (l0_2 : List (S110)) (A0_3 : Option Addr) (c0_3 : Nat) (l0_3 : List (S112)) (A0_4 : Option Addr) (c0_4 : Nat) (l0_4 : List (S64)) (a0_5 : Int) (a1 : Int) (r : Int) (w : World) (hr0_0 : Kd.C k106 w A0_0 l0_0.length l0_0) (hc0_0 : l0_0.length ≤ c0_0) (hr0_1 : Kd.C k108 w A0_1 l0_1.length l0_1) (hc0_1 : l0_1.length ≤ c0_1) (hr0_2 : Kd.C k110 w A0_2 l0_2.length l0_2) (hc0_2 : l0_2.length ≤ c0_2) (hr0_3 : Kd.C k112 w A0_3 l0_3.length l0_3) (hc0_3 : l0_3.length ≤ c0_3) (hr0_4 : Kd.C k64 w A0_4 l0_4.length l0_4) (hc0_4 : l0_4.length ≤ c0_4) (h : laws_szBooks.f l0_0 l0_1 l0_2 l0_3 l0_4 a0_5 a1 = some r) :
 Calls Try.prog 18 #[.agg #[.slice A0_0 l0_0.length c0_0, .slice A0_1 l0_1.length c0_1, .slice A0_2 l0_2.length c0_2, .slice A0_3 l0_3.length c0_3, .slice A0_4 l0_4.length c0_4, .int .i64 a0_5], .int .i64 a1] w fun e w' => e = .returned (.int .i64 r) ∧ Below w.heap.size w w' := by
 have hu44 := Try.underlying44; have HR0_0 := Aside0.mk hr0_0; have HC0_0 := Aside0.mk hc0_0; clear hr0_0 hc0_0; have HR0_1 := Aside0.mk hr0_1; have HC0_1 := Aside0.mk hc0_1; clear hr0_1 hc0_1; have HR0_2 := Aside0.mk hr0_2; have HC0_2 := Aside0.mk hc0_2; clear hr0_2 hc0_2; have HR0_3 := Aside0.mk hr0_3; have HC0_3 := Aside0.mk hc0_3; clear hr0_3 hc0_3; have HR0_4 := Aside0.mk hr0_4; have HC0_4 := Aside0.mk hc0_4; clear hr0_4 hc0_4; have HB := Aside0.mk (Below.refl w.heap.size w); have H : ((laws_szAccountS.f l0_0 a1).bind fun t134 => (if t134 < 0 then (some (-1)) else ((laws_szInstrS.f l0_1 t134).bind fun t135 => (if t135 < 0 then (some (-1)) else ((laws_szBalS.f l0_2 t135).bind fun t136 => (if t136 < 0 then (some (-1)) else ((laws_szLotS.f l0_3 t136).bind fun t137 => (if t137 < 0 then (some (-1)) else ((laws_szTradeS.f l0_4 t137).bind fun t138 => (if t138 < 0 then (some (-1)) else (some t138))))))))))) = some r := h; clear h; replace H := Option.bind_eq_some_iff.mp H; obtain ⟨t134, A30, H⟩ := H; have A3 := Aside0.mk A30; clear A30
 by_cases c4 : t134 < 0
 ·
  rw [if_pos c4] at H; have c4b0 : decide (t134 < 0) = true := decide_eq_true c4; clear c4; obtain rfl := Option.some.inj H; go_enter Try.func18, Try.ntmps18; go_wp2_with (first | ((with_reducible refine gate_dst (N := 2) rfl ?_); refine be_ 2 (cs := #[.slice A0_0 l0_0.length c0_0, .slice A0_1 l0_1.length c0_1, .slice A0_2 l0_2.length c0_2, .slice A0_3 l0_3.length c0_3, .slice A0_4 l0_4.length c0_4, .int .i64 a0_5]) (t := 44) ?_; intro gb133 hg w5 hbox hb; have n_ := bx_ hg hbox hb; clear HB; obtain ⟨HB, BK133, GW133, GE133⟩ := n_; clear hb hbox hg; obtain ⟨_, _, _, _, _, _, _, _, _, _, _, _⟩ := ce6_ BK133.1) | ((with_reducible refine gate_callee (f := 50) rfl ?_); refine goesL_ (some 8) rfl rfl Try.func50 kr_ rfl #[.slice A0_0 l0_0.length c0_0, .int .i64 a1] rfl (bc_) ?_; (with_reducible refine (laws_szAccountS.calls _ _ l0_0 a1 t134 _ ?side1 ?side2 A3.1).mono ?_); (case side1 => exact cc_ (Kd.C_below HR0_0.1 HB.1)); (case side2 => exact HC0_0.1); rintro e w' ⟨rfl, ⟨nd, rfl⟩⟩; refine ⟨_, rfl, ?_⟩))
  go_ret; exact ⟨er_, bg_ GE133.1⟩
 ·
  rw [if_neg c4] at H; have c4b0 : decide (t134 < 0) = false := decide_eq_false c4; clear c4; replace H := Option.bind_eq_some_iff.mp H; obtain ⟨t135, A70, H⟩ := H; have A7 := Aside0.mk A70; clear A70
  by_cases c8 : t135 < 0
  ·
   rw [if_pos c8] at H; have c8b0 : decide (t135 < 0) = true := decide_eq_true c8; clear c8; obtain rfl := Option.some.inj H; go_enter Try.func18, Try.ntmps18
   go_wp2_with (first | ((with_reducible refine gate_dst (N := 2) rfl ?_); refine be_ 2 (cs := #[.slice A0_0 l0_0.length c0_0, .slice A0_1 l0_1.length c0_1, .slice A0_2 l0_2.length c0_2, .slice A0_3 l0_3.length c0_3, .slice A0_4 l0_4.length c0_4, .int .i64 a0_5]) (t := 44) ?_; intro gb133 hg w9 hbox hb; have n_ := bx_ hg hbox hb; clear HB; obtain ⟨HB, BK133, GW133, GE133⟩ := n_; clear hb hbox hg; obtain ⟨_, _, _, _, _, _, _, _, _, _, _, _⟩ := ce6_ BK133.1) | ((with_reducible refine gate_callee (f := 50) rfl ?_); refine goesL_ (some 8) rfl rfl Try.func50 kr_ rfl #[.slice A0_0 l0_0.length c0_0, .int .i64 a1] rfl (bc_) ?_; (with_reducible refine (laws_szAccountS.calls _ _ l0_0 a1 t134 _ ?side1 ?side2 A3.1).mono ?_); (case side1 => exact cc_ (Kd.C_below HR0_0.1 HB.1)); (case side2 => exact HC0_0.1); rintro e w' ⟨rfl, ⟨nd, rfl⟩⟩; refine ⟨_, rfl, ?_⟩) | ((with_reducible refine gate_callee (f := 51) rfl ?_); refine goesL_ (some 14) rfl rfl Try.func51 kr_ rfl #[.slice A0_1 l0_1.length c0_1, .int .i64 t134] rfl (bc_) ?_; (with_reducible refine (laws_szInstrS.calls _ _ l0_1 t134 t135 _ ?side1 ?side2 A7.1).mono ?_); (case side1 => exact cc_ ((Kd.C_below HR0_1.1 (bg_ GE133.1)))); (case side2 => exact HC0_1.1); rintro e w' ⟨rfl, ⟨nd, rfl⟩⟩; refine ⟨_, rfl, ?_⟩))
   go_ret; exact ⟨er_, bg_ GE133.1⟩
  ·
   rw [if_neg c8] at H; have c8b0 : decide (t135 < 0) = false := decide_eq_false c8; clear c8; replace H := Option.bind_eq_some_iff.mp H; obtain ⟨t136, A110, H⟩ := H; have A11 := Aside0.mk A110; clear A110
   by_cases c12 : t136 < 0
   ·
    rw [if_pos c12] at H; have c12b0 : decide (t136 < 0) = true := decide_eq_true c12; clear c12; obtain rfl := Option.some.inj H; go_enter Try.func18, Try.ntmps18
    go_wp2_with (first | ((with_reducible refine gate_dst (N := 2) rfl ?_); refine be_ 2 (cs := #[.slice A0_0 l0_0.length c0_0, .slice A0_1 l0_1.length c0_1, .slice A0_2 l0_2.length c0_2, .slice A0_3 l0_3.length c0_3, .slice A0_4 l0_4.length c0_4, .int .i64 a0_5]) (t := 44) ?_; intro gb133 hg w13 hbox hb; have n_ := bx_ hg hbox hb; clear HB; obtain ⟨HB, BK133, GW133, GE133⟩ := n_; clear hb hbox hg; obtain ⟨_, _, _, _, _, _, _, _, _, _, _, _⟩ := ce6_ BK133.1) | ((with_reducible refine gate_callee (f := 50) rfl ?_); refine goesL_ (some 8) rfl rfl Try.func50 kr_ rfl #[.slice A0_0 l0_0.length c0_0, .int .i64 a1] rfl (bc_) ?_; (with_reducible refine (laws_szAccountS.calls _ _ l0_0 a1 t134 _ ?side1 ?side2 A3.1).mono ?_); (case side1 => exact cc_ (Kd.C_below HR0_0.1 HB.1)); (case side2 => exact HC0_0.1); rintro e w' ⟨rfl, ⟨nd, rfl⟩⟩; refine ⟨_, rfl, ?_⟩) | ((with_reducible refine gate_callee (f := 51) rfl ?_); refine goesL_ (some 14) rfl rfl Try.func51 kr_ rfl #[.slice A0_1 l0_1.length c0_1, .int .i64 t134] rfl (bc_) ?_; (with_reducible refine (laws_szInstrS.calls _ _ l0_1 t134 t135 _ ?side1 ?side2 A7.1).mono ?_); (case side1 => exact cc_ ((Kd.C_below HR0_1.1 (bg_ GE133.1)))); (case side2 => exact HC0_1.1); rintro e w' ⟨rfl, ⟨nd, rfl⟩⟩; refine ⟨_, rfl, ?_⟩) | ((with_reducible refine gate_callee (f := 52) rfl ?_); refine goesL_ (some 20) rfl rfl Try.func52 kr_ rfl #[.slice A0_2 l0_2.length c0_2, .int .i64 t135] rfl (bc_) ?_; (with_reducible refine (laws_szBalS.calls _ _ l0_2 t135 t136 _ ?side1 ?side2 A11.1).mono ?_); (case side1 => exact cc_ ((Kd.C_below HR0_2.1 (bg_ GE133.1)))); (case side2 => exact HC0_2.1); rintro e w' ⟨rfl, ⟨nd, rfl⟩⟩; refine ⟨_, rfl, ?_⟩))
    go_ret; exact ⟨er_, bg_ GE133.1⟩
   ·
    rw [if_neg c12] at H; have c12b0 : decide (t136 < 0) = false := decide_eq_false c12; clear c12; replace H := Option.bind_eq_some_iff.mp H; obtain ⟨t137, A150, H⟩ := H; have A15 := Aside0.mk A150; clear A150
    by_cases c16 : t137 < 0
    ·
     rw [if_pos c16] at H; have c16b0 : decide (t137 < 0) = true := decide_eq_true c16; clear c16; obtain rfl := Option.some.inj H; go_enter Try.func18, Try.ntmps18
     go_wp2_with (first | ((with_reducible refine gate_dst (N := 2) rfl ?_); refine be_ 2 (cs := #[.slice A0_0 l0_0.length c0_0, .slice A0_1 l0_1.length c0_1, .slice A0_2 l0_2.length c0_2, .slice A0_3 l0_3.length c0_3, .slice A0_4 l0_4.length c0_4, .int .i64 a0_5]) (t := 44) ?_; intro gb133 hg w17 hbox hb; have n_ := bx_ hg hbox hb; clear HB; obtain ⟨HB, BK133, GW133, GE133⟩ := n_; clear hb hbox hg; obtain ⟨_, _, _, _, _, _, _, _, _, _, _, _⟩ := ce6_ BK133.1) | ((with_reducible refine gate_callee (f := 50) rfl ?_); refine goesL_ (some 8) rfl rfl Try.func50 kr_ rfl #[.slice A0_0 l0_0.length c0_0, .int .i64 a1] rfl (bc_) ?_; (with_reducible refine (laws_szAccountS.calls _ _ l0_0 a1 t134 _ ?side1 ?side2 A3.1).mono ?_); (case side1 => exact cc_ (Kd.C_below HR0_0.1 HB.1)); (case side2 => exact HC0_0.1); rintro e w' ⟨rfl, ⟨nd, rfl⟩⟩; refine ⟨_, rfl, ?_⟩) | ((with_reducible refine gate_callee (f := 51) rfl ?_); refine goesL_ (some 14) rfl rfl Try.func51 kr_ rfl #[.slice A0_1 l0_1.length c0_1, .int .i64 t134] rfl (bc_) ?_; (with_reducible refine (laws_szInstrS.calls _ _ l0_1 t134 t135 _ ?side1 ?side2 A7.1).mono ?_); (case side1 => exact cc_ ((Kd.C_below HR0_1.1 (bg_ GE133.1)))); (case side2 => exact HC0_1.1); rintro e w' ⟨rfl, ⟨nd, rfl⟩⟩; refine ⟨_, rfl, ?_⟩) | ((with_reducible refine gate_callee (f := 52) rfl ?_); refine goesL_ (some 20) rfl rfl Try.func52 kr_ rfl #[.slice A0_2 l0_2.length c0_2, .int .i64 t135] rfl (bc_) ?_; (with_reducible refine (laws_szBalS.calls _ _ l0_2 t135 t136 _ ?side1 ?side2 A11.1).mono ?_); (case side1 => exact cc_ ((Kd.C_below HR0_2.1 (bg_ GE133.1)))); (case side2 => exact HC0_2.1); rintro e w' ⟨rfl, ⟨nd, rfl⟩⟩; refine ⟨_, rfl, ?_⟩) | ((with_reducible refine gate_callee (f := 53) rfl ?_); refine goesL_ (some 26) rfl rfl Try.func53 kr_ rfl #[.slice A0_3 l0_3.length c0_3, .int .i64 t136] rfl (bc_) ?_; (with_reducible refine (laws_szLotS.calls _ _ l0_3 t136 t137 _ ?side1 ?side2 A15.1).mono ?_); (case side1 => exact cc_ ((Kd.C_below HR0_3.1 (bg_ GE133.1)))); (case side2 => exact HC0_3.1); rintro e w' ⟨rfl, ⟨nd, rfl⟩⟩; refine ⟨_, rfl, ?_⟩))
     go_ret; exact ⟨er_, bg_ GE133.1⟩
    ·
     rw [if_neg c16] at H; have c16b0 : decide (t137 < 0) = false := decide_eq_false c16; clear c16; replace H := Option.bind_eq_some_iff.mp H; obtain ⟨t138, A190, H⟩ := H; have A19 := Aside0.mk A190; clear A190
     by_cases c20 : t138 < 0
     ·
      rw [if_pos c20] at H; have c20b0 : decide (t138 < 0) = true := decide_eq_true c20; clear c20; obtain rfl := Option.some.inj H; go_enter Try.func18, Try.ntmps18
      go_wp2_with (first | ((with_reducible refine gate_dst (N := 2) rfl ?_); refine be_ 2 (cs := #[.slice A0_0 l0_0.length c0_0, .slice A0_1 l0_1.length c0_1, .slice A0_2 l0_2.length c0_2, .slice A0_3 l0_3.length c0_3, .slice A0_4 l0_4.length c0_4, .int .i64 a0_5]) (t := 44) ?_; intro gb133 hg w21 hbox hb; have n_ := bx_ hg hbox hb; clear HB; obtain ⟨HB, BK133, GW133, GE133⟩ := n_; clear hb hbox hg; obtain ⟨_, _, _, _, _, _, _, _, _, _, _, _⟩ := ce6_ BK133.1) | ((with_reducible refine gate_callee (f := 50) rfl ?_); refine goesL_ (some 8) rfl rfl Try.func50 kr_ rfl #[.slice A0_0 l0_0.length c0_0, .int .i64 a1] rfl (bc_) ?_; (with_reducible refine (laws_szAccountS.calls _ _ l0_0 a1 t134 _ ?side1 ?side2 A3.1).mono ?_); (case side1 => exact cc_ (Kd.C_below HR0_0.1 HB.1)); (case side2 => exact HC0_0.1); rintro e w' ⟨rfl, ⟨nd, rfl⟩⟩; refine ⟨_, rfl, ?_⟩) | ((with_reducible refine gate_callee (f := 51) rfl ?_); refine goesL_ (some 14) rfl rfl Try.func51 kr_ rfl #[.slice A0_1 l0_1.length c0_1, .int .i64 t134] rfl (bc_) ?_; (with_reducible refine (laws_szInstrS.calls _ _ l0_1 t134 t135 _ ?side1 ?side2 A7.1).mono ?_); (case side1 => exact cc_ ((Kd.C_below HR0_1.1 (bg_ GE133.1)))); (case side2 => exact HC0_1.1); rintro e w' ⟨rfl, ⟨nd, rfl⟩⟩; refine ⟨_, rfl, ?_⟩) | ((with_reducible refine gate_callee (f := 52) rfl ?_); refine goesL_ (some 20) rfl rfl Try.func52 kr_ rfl #[.slice A0_2 l0_2.length c0_2, .int .i64 t135] rfl (bc_) ?_; (with_reducible refine (laws_szBalS.calls _ _ l0_2 t135 t136 _ ?side1 ?side2 A11.1).mono ?_); (case side1 => exact cc_ ((Kd.C_below HR0_2.1 (bg_ GE133.1)))); (case side2 => exact HC0_2.1); rintro e w' ⟨rfl, ⟨nd, rfl⟩⟩; refine ⟨_, rfl, ?_⟩) | ((with_reducible refine gate_callee (f := 53) rfl ?_); refine goesL_ (some 26) rfl rfl Try.func53 kr_ rfl #[.slice A0_3 l0_3.length c0_3, .int .i64 t136] rfl (bc_) ?_; (with_reducible refine (laws_szLotS.calls _ _ l0_3 t136 t137 _ ?side1 ?side2 A15.1).mono ?_); (case side1 => exact cc_ ((Kd.C_below HR0_3.1 (bg_ GE133.1)))); (case side2 => exact HC0_3.1); rintro e w' ⟨rfl, ⟨nd, rfl⟩⟩; refine ⟨_, rfl, ?_⟩) | ((with_reducible refine gate_callee (f := 8) rfl ?_); refine goesL_ (some 32) rfl rfl Try.func8 kr_ rfl #[.slice A0_4 l0_4.length c0_4, .int .i64 t137] rfl (bc_) ?_; (with_reducible refine (laws_szTradeS.calls _ _ l0_4 t137 t138 _ ?side1 ?side2 A19.1).mono ?_); (case side1 => exact cc_ ((Kd.C_below HR0_4.1 (bg_ GE133.1)))); (case side2 => exact HC0_4.1); rintro e w' ⟨rfl, ⟨nd, rfl⟩⟩; refine ⟨_, rfl, ?_⟩))
      go_ret; exact ⟨er_, bg_ GE133.1⟩
     ·
      rw [if_neg c20] at H; have c20b0 : decide (t138 < 0) = false := decide_eq_false c20; clear c20; obtain rfl := Option.some.inj H; go_enter Try.func18, Try.ntmps18
      go_wp2_with (first | ((with_reducible refine gate_dst (N := 2) rfl ?_); refine be_ 2 (cs := #[.slice A0_0 l0_0.length c0_0, .slice A0_1 l0_1.length c0_1, .slice A0_2 l0_2.length c0_2, .slice A0_3 l0_3.length c0_3, .slice A0_4 l0_4.length c0_4, .int .i64 a0_5]) (t := 44) ?_; intro gb133 hg w23 hbox hb; have n_ := bx_ hg hbox hb; clear HB; obtain ⟨HB, BK133, GW133, GE133⟩ := n_; clear hb hbox hg; obtain ⟨_, _, _, _, _, _, _, _, _, _, _, _⟩ := ce6_ BK133.1) | ((with_reducible refine gate_callee (f := 50) rfl ?_); refine goesL_ (some 8) rfl rfl Try.func50 kr_ rfl #[.slice A0_0 l0_0.length c0_0, .int .i64 a1] rfl (bc_) ?_; (with_reducible refine (laws_szAccountS.calls _ _ l0_0 a1 t134 _ ?side1 ?side2 A3.1).mono ?_); (case side1 => exact cc_ (Kd.C_below HR0_0.1 HB.1)); (case side2 => exact HC0_0.1); rintro e w' ⟨rfl, ⟨nd, rfl⟩⟩; refine ⟨_, rfl, ?_⟩) | ((with_reducible refine gate_callee (f := 51) rfl ?_); refine goesL_ (some 14) rfl rfl Try.func51 kr_ rfl #[.slice A0_1 l0_1.length c0_1, .int .i64 t134] rfl (bc_) ?_; (with_reducible refine (laws_szInstrS.calls _ _ l0_1 t134 t135 _ ?side1 ?side2 A7.1).mono ?_); (case side1 => exact cc_ ((Kd.C_below HR0_1.1 (bg_ GE133.1)))); (case side2 => exact HC0_1.1); rintro e w' ⟨rfl, ⟨nd, rfl⟩⟩; refine ⟨_, rfl, ?_⟩) | ((with_reducible refine gate_callee (f := 52) rfl ?_); refine goesL_ (some 20) rfl rfl Try.func52 kr_ rfl #[.slice A0_2 l0_2.length c0_2, .int .i64 t135] rfl (bc_) ?_; (with_reducible refine (laws_szBalS.calls _ _ l0_2 t135 t136 _ ?side1 ?side2 A11.1).mono ?_); (case side1 => exact cc_ ((Kd.C_below HR0_2.1 (bg_ GE133.1)))); (case side2 => exact HC0_2.1); rintro e w' ⟨rfl, ⟨nd, rfl⟩⟩; refine ⟨_, rfl, ?_⟩) | ((with_reducible refine gate_callee (f := 53) rfl ?_); refine goesL_ (some 26) rfl rfl Try.func53 kr_ rfl #[.slice A0_3 l0_3.length c0_3, .int .i64 t136] rfl (bc_) ?_; (with_reducible refine (laws_szLotS.calls _ _ l0_3 t136 t137 _ ?side1 ?side2 A15.1).mono ?_); (case side1 => exact cc_ ((Kd.C_below HR0_3.1 (bg_ GE133.1)))); (case side2 => exact HC0_3.1); rintro e w' ⟨rfl, ⟨nd, rfl⟩⟩; refine ⟨_, rfl, ?_⟩) | ((with_reducible refine gate_callee (f := 8) rfl ?_); refine goesL_ (some 32) rfl rfl Try.func8 kr_ rfl #[.slice A0_4 l0_4.length c0_4, .int .i64 t137] rfl (bc_) ?_; (with_reducible refine (laws_szTradeS.calls _ _ l0_4 t137 t138 _ ?side1 ?side2 A19.1).mono ?_); (case side1 => exact cc_ ((Kd.C_below HR0_4.1 (bg_ GE133.1)))); (case side2 => exact HC0_4.1); rintro e w' ⟨rfl, ⟨nd, rfl⟩⟩; refine ⟨_, rfl, ?_⟩))
      go_ret; exact ⟨er_, bg_ GE133.1⟩
def spec_l1In.f (a0 : Int) (a1 : Int) (a2 : Int) : Option (Bool) := if a0 ≥ a1 then (some (decide (a0 ≤ a2))) else (some false)
theorem spec_l1In.calls (a0 : Int) (a1 : Int) (a2 : Int) (r : Bool) (w : World) (h : spec_l1In.f a0 a1 a2 = some r) :
 Calls Try.prog 32 #[.int .i64 a0, .int .i64 a1, .int .i64 a2] w fun e w' => e = .returned (.bool r) ∧ Drawn0 w w' := by
 have H : (if a0 ≥ a1 then (some (decide (a0 ≤ a2))) else (some false)) = some r := h; clear h
 by_cases c4 : a0 ≥ a1
 ·
  rw [if_pos c4] at H; have c4b0 : decide (a1 ≤ a0) = true := decide_eq_true c4; clear c4; obtain rfl := Option.some.inj H; go_enter Try.func32, Try.ntmps32; go_wp2; go_ret; exact ⟨rs_, dr_⟩
 ·
  rw [if_neg c4] at H; have c4b0 : decide (a1 ≤ a0) = false := decide_eq_false c4; clear c4; obtain rfl := Option.some.inj H; go_enter Try.func32, Try.ntmps32; go_wp2; go_ret; exact ⟨rs_, dr_⟩
def spec_l3No.f (a0 : Int) : Option (Bool) := (spec_l1In.f a0 1 1000).bind fun t139 => (some t139)
theorem spec_l3No.calls (a0 : Int) (r : Bool) (w : World) (h : spec_l3No.f a0 = some r) :
 Calls Try.prog 30 #[.int .i64 a0] w fun e w' => e = .returned (.bool r) ∧ Drawn0 w w' := by
 have H : ((spec_l1In.f a0 1 1000).bind fun t139 => (some t139)) = some r := h; clear h; replace H := Option.bind_eq_some_iff.mp H; obtain ⟨t139, A20, H⟩ := H; have A2 := Aside0.mk A20; clear A20; obtain rfl := Option.some.inj H; go_enter Try.func30, Try.ntmps30; go_wp2_with (first | ((with_reducible refine gate_callee (f := 32) rfl ?_); refine goesL_ (some 4) rfl rfl Try.func32 kr_ rfl #[.int .i64 a0, .int .i64 1, .int .i64 1000] rfl (bc_) ?_; (with_reducible refine (spec_l1In.calls a0 1 1000 t139 _ A2.1).mono ?_); rintro e w' ⟨rfl, ⟨nd, rfl⟩⟩; refine ⟨_, rfl, ?_⟩))
 go_ret; exact ⟨rs_, dr_⟩
def spec_l1Some.f (a0 : Int) (a1 : Int) : Option (Bool) := (spec_l1In.f a0 a1 1000000000000000).bind fun t140 => (some t140)
theorem spec_l1Some.calls (a0 : Int) (a1 : Int) (r : Bool) (w : World) (h : spec_l1Some.f a0 a1 = some r) :
 Calls Try.prog 31 #[.int .i64 a0, .int .i64 a1] w fun e w' => e = .returned (.bool r) ∧ Drawn0 w w' := by
 have H : ((spec_l1In.f a0 a1 1000000000000000).bind fun t140 => (some t140)) = some r := h; clear h; replace H := Option.bind_eq_some_iff.mp H; obtain ⟨t140, A30, H⟩ := H; have A3 := Aside0.mk A30; clear A30; obtain rfl := Option.some.inj H; go_enter Try.func31, Try.ntmps31; go_wp2_with (first | ((with_reducible refine gate_callee (f := 32) rfl ?_); refine goesL_ (some 7) rfl rfl Try.func32 kr_ rfl #[.int .i64 a0, .int .i64 a1, .int .i64 1000000000000000] rfl (bc_) ?_; (with_reducible refine (spec_l1In.calls a0 a1 1000000000000000 t140 _ A3.1).mono ?_); rintro e w' ⟨rfl, ⟨nd, rfl⟩⟩; refine ⟨_, rfl, ?_⟩))
 go_ret; exact ⟨rs_, dr_⟩
end Go.Proofs.Ytmfgajbkcnlkcaa.P
