/- What the law FnExactBookIssue leans on, cut out of this repo's own texts by a program of this repo: plain functions, the walks that tie the Go calls to them, the law over lists and numbers, and the row. -/
import Derived.Test.YtmfgajbkcnlkcaaGreatZFnExactBookIssue0
import Derived.Test.YtmfgajbkcnlkcaaGreatProg
import Derived.Below
import Derived.Deep.Draws
import Derived.Deep.AppendLies
import Derived.Maps.AppendAt
import Derived.OwnWalk
import Derived.Laws.BytesArg
import Derived.Laws.MakeOwn
import Derived.Laws.OwnMore
import Derived.Deep.OwnRows
import Derived.Tactics
import Derived.Lib.ConvBytes
import Derived.Laws.Slices
import Derived.WalkKit
import Derived.KernelRfl
import Derived.RowKit3
import Derived.Deep.LoopGhost
import Derived.Deep.QuietTactic
import Derived.BigQuiet
import Derived.WideLaws
import Derived.Deep.DeepCutAuto
import Derived.Deep.CutBlock
import Derived.Deep.RegionHeld3
import Derived.Laws.Rows
import Derived.Lib.AppendStr
import Derived.ArgAppend
import Derived.Laws.IdiomCopy
import Derived.OrdersHeld
import Derived.Laws.BitsLemmas
import Derived.RowKit
import Derived.Lib.SliceRun
import Derived.Shelf.RegionOpenPlain
import Derived.Orders
import Derived.Laws.AppendOwn
import Derived.Laws.Small
import Derived.Laws.Entries
import Derived.Laws.Cells
import Derived.Laws.CopyRow
import Derived.Laws.Tables
namespace Go.Proofs.YtmfgajbkcnlkcaaGreat.P
open Go.RowKit Go.Proofs.YtmfgajbkcnlkcaaGreatW.PrintWords Go.Proofs.YtmfgajbkcnlkcaaGreatW.PrintLast Go.Proofs.YtmfgajbkcnlkcaaGreatW.PrintMore
attribute [local go_sem] max2_int min2_int max_two min_two max_three min_three max_four min_four   -- for this text's walks alone
set_option linter.unusedVariables false
set_option linter.unusedSimpArgs false
def errW : Option Int → Value
 | none => .nilIface
 | some c => .iface 0 (.int .i64 c)
theorem errW_none : errW none = .nilIface := rfl
theorem errW_some (c : Int) : errW (some c) = .iface 0 (.int .i64 c) := rfl
theorem info60 : (Tryz.prog.info? 60).map (fun i => (i.zero, i.size, i.bytes)) = some (some (.agg #[(.int .i64 0), (.int .i64 0), (.int .i64 0), (.int .i64 0), (.int .i64 0), (.int .i64 0), (.int .i64 0), (.int .i64 0)]), 8, 64) := by kernel_rfl
theorem info80 : (Tryz.prog.info? 80).map (fun i => (i.zero, i.size, i.bytes)) = some (some (.agg #[(.int .i64 0), (.int .i64 0)]), 2, 16) := by kernel_rfl
theorem info84 : (Tryz.prog.info? 84).map (fun i => (i.zero, i.size, i.bytes)) = some (some (.agg #[(.int .i64 0), (.int .i64 0)]), 2, 16) := by kernel_rfl
theorem info106 : (Tryz.prog.info? 106).map (fun i => (i.zero, i.size, i.bytes)) = some (some (.agg #[(.int .i64 0), (.int .i64 0), (.int .i64 0)]), 3, 24) := by kernel_rfl
theorem info110 : (Tryz.prog.info? 110).map (fun i => (i.zero, i.size, i.bytes)) = some (some (.agg #[(.int .i64 0), (.int .i64 0), (.int .i64 0), (.int .i64 0), (.int .i64 0)]), 5, 40) := by kernel_rfl
structure S103 where
 f0 : Int
 f1 : Int
def z103 : S103 := ⟨(0 : Int), (0 : Int)⟩
def k103 : Kd S103 := Kd.iso (Kd.pair (Kd.int .i64) (Kd.int .i64)) (fun x : S103 => (x.f0, x.f1))
theorem k103_open {w : World} {x : S103} {cs : List Value} (h : k103.K w x cs) : cs = [.int .i64 x.f0, .int .i64 x.f1] := by
 obtain ⟨_, _, rfl, rfl, rfl⟩ := h; exact rfl
theorem k103_mk (w : World) (x : S103)  : k103.K w x [.int .i64 x.f0, .int .i64 x.f1] := ⟨[.int .i64 x.f0], [.int .i64 x.f1], rfl, rfl, rfl⟩
def rd_T103 (xs : List S103) (i : Int) : S103 := xs.getD i.toNat z103
structure S105 where
 f0 : Int
 f1 : Int
def z105 : S105 := ⟨(0 : Int), (0 : Int)⟩
def k105 : Kd S105 := Kd.iso (Kd.pair (Kd.int .i64) (Kd.int .i64)) (fun x : S105 => (x.f0, x.f1))
theorem k105_open {w : World} {x : S105} {cs : List Value} (h : k105.K w x cs) : cs = [.int .i64 x.f0, .int .i64 x.f1] := by
 obtain ⟨_, _, rfl, rfl, rfl⟩ := h; exact rfl
theorem k105_mk (w : World) (x : S105)  : k105.K w x [.int .i64 x.f0, .int .i64 x.f1] := ⟨[.int .i64 x.f0], [.int .i64 x.f1], rfl, rfl, rfl⟩
def rd_T105 (xs : List S105) (i : Int) : S105 := xs.getD i.toNat z105
structure S108 where
 f0 : Int
 f1 : Int
 f2 : Int
def z108 : S108 := ⟨(0 : Int), (0 : Int), (0 : Int)⟩
def k108 : Kd S108 := Kd.iso (Kd.pair (Kd.int .i64) (Kd.pair (Kd.int .i64) (Kd.int .i64))) (fun x : S108 => (x.f0, x.f1, x.f2))
theorem k108_open {w : World} {x : S108} {cs : List Value} (h : k108.K w x cs) : cs = [.int .i64 x.f0, .int .i64 x.f1, .int .i64 x.f2] := by
 obtain ⟨_, _, rfl, rfl, ⟨_, _, rfl, rfl, rfl⟩⟩ := h; exact rfl
theorem k108_mk (w : World) (x : S108)  : k108.K w x [.int .i64 x.f0, .int .i64 x.f1, .int .i64 x.f2] := ⟨[.int .i64 x.f0], [.int .i64 x.f1, .int .i64 x.f2], rfl, rfl, ⟨[.int .i64 x.f1], [.int .i64 x.f2], rfl, rfl, rfl⟩⟩
def rd_T108 (xs : List S108) (i : Int) : S108 := xs.getD i.toNat z108
structure S112 where
 f0 : Int
 f1 : Int
 f2 : Int
 f3 : Int
 f4 : Int
def z112 : S112 := ⟨(0 : Int), (0 : Int), (0 : Int), (0 : Int), (0 : Int)⟩
def k112 : Kd S112 := Kd.iso (Kd.pair (Kd.int .i64) (Kd.pair (Kd.int .i64) (Kd.pair (Kd.int .i64) (Kd.pair (Kd.int .i64) (Kd.int .i64))))) (fun x : S112 => (x.f0, x.f1, x.f2, x.f3, x.f4))
theorem k112_open {w : World} {x : S112} {cs : List Value} (h : k112.K w x cs) : cs = [.int .i64 x.f0, .int .i64 x.f1, .int .i64 x.f2, .int .i64 x.f3, .int .i64 x.f4] := by
 obtain ⟨_, _, rfl, rfl, ⟨_, _, rfl, rfl, ⟨_, _, rfl, rfl, ⟨_, _, rfl, rfl, rfl⟩⟩⟩⟩ := h; exact rfl
theorem k112_mk (w : World) (x : S112)  : k112.K w x [.int .i64 x.f0, .int .i64 x.f1, .int .i64 x.f2, .int .i64 x.f3, .int .i64 x.f4] := ⟨[.int .i64 x.f0], [.int .i64 x.f1, .int .i64 x.f2, .int .i64 x.f3, .int .i64 x.f4], rfl, rfl, ⟨[.int .i64 x.f1], [.int .i64 x.f2, .int .i64 x.f3, .int .i64 x.f4], rfl, rfl, ⟨[.int .i64 x.f2], [.int .i64 x.f3, .int .i64 x.f4], rfl, rfl, ⟨[.int .i64 x.f3], [.int .i64 x.f4], rfl, rfl, rfl⟩⟩⟩⟩
def rd_T112 (xs : List S112) (i : Int) : S112 := xs.getD i.toNat z112
structure S114 where
 f0 : Int
 f1 : Int
 f2 : Int
 f3 : Int
 f4 : Int
 f5 : Int
 f6 : Int
 f7 : Int
def z114 : S114 := ⟨(0 : Int), (0 : Int), (0 : Int), (0 : Int), (0 : Int), (0 : Int), (0 : Int), (0 : Int)⟩
def k114 : Kd S114 := Kd.iso (Kd.pair (Kd.int .i64) (Kd.pair (Kd.int .i64) (Kd.pair (Kd.int .i64) (Kd.pair (Kd.int .i64) (Kd.pair (Kd.int .i64) (Kd.pair (Kd.int .i64) (Kd.pair (Kd.int .i64) (Kd.int .i64)))))))) (fun x : S114 => (x.f0, x.f1, x.f2, x.f3, x.f4, x.f5, x.f6, x.f7))
theorem k114_open {w : World} {x : S114} {cs : List Value} (h : k114.K w x cs) : cs = [.int .i64 x.f0, .int .i64 x.f1, .int .i64 x.f2, .int .i64 x.f3, .int .i64 x.f4, .int .i64 x.f5, .int .i64 x.f6, .int .i64 x.f7] := by
 obtain ⟨_, _, rfl, rfl, ⟨_, _, rfl, rfl, ⟨_, _, rfl, rfl, ⟨_, _, rfl, rfl, ⟨_, _, rfl, rfl, ⟨_, _, rfl, rfl, ⟨_, _, rfl, rfl, rfl⟩⟩⟩⟩⟩⟩⟩ := h; exact rfl
theorem k114_mk (w : World) (x : S114)  : k114.K w x [.int .i64 x.f0, .int .i64 x.f1, .int .i64 x.f2, .int .i64 x.f3, .int .i64 x.f4, .int .i64 x.f5, .int .i64 x.f6, .int .i64 x.f7] := ⟨[.int .i64 x.f0], [.int .i64 x.f1, .int .i64 x.f2, .int .i64 x.f3, .int .i64 x.f4, .int .i64 x.f5, .int .i64 x.f6, .int .i64 x.f7], rfl, rfl, ⟨[.int .i64 x.f1], [.int .i64 x.f2, .int .i64 x.f3, .int .i64 x.f4, .int .i64 x.f5, .int .i64 x.f6, .int .i64 x.f7], rfl, rfl, ⟨[.int .i64 x.f2], [.int .i64 x.f3, .int .i64 x.f4, .int .i64 x.f5, .int .i64 x.f6, .int .i64 x.f7], rfl, rfl, ⟨[.int .i64 x.f3], [.int .i64 x.f4, .int .i64 x.f5, .int .i64 x.f6, .int .i64 x.f7], rfl, rfl, ⟨[.int .i64 x.f4], [.int .i64 x.f5, .int .i64 x.f6, .int .i64 x.f7], rfl, rfl, ⟨[.int .i64 x.f5], [.int .i64 x.f6, .int .i64 x.f7], rfl, rfl, ⟨[.int .i64 x.f6], [.int .i64 x.f7], rfl, rfl, rfl⟩⟩⟩⟩⟩⟩⟩
def rd_T114 (xs : List S114) (i : Int) : S114 := xs.getD i.toNat z114
structure S80 where
 f0 : Int
 f1 : Int
def z80 : S80 := ⟨(0 : Int), (0 : Int)⟩
def k80 : Kd S80 := Kd.iso (Kd.pair (Kd.int .i64) (Kd.int .i64)) (fun x : S80 => (x.f0, x.f1))
theorem k80_open {w : World} {x : S80} {cs : List Value} (h : k80.K w x cs) : cs = [.int .i64 x.f0, .int .i64 x.f1] := by
 obtain ⟨_, _, rfl, rfl, rfl⟩ := h; exact rfl
theorem k80_openM {w : World} {base : Nat} {ok : Nat → Prop} {x : S80} {cs : List Value} (h : k80.M w base ok x cs) : cs = [.int .i64 x.f0, .int .i64 x.f1] := by
 obtain ⟨_, _, rfl, rfl, rfl⟩ := h; exact rfl
theorem k80_mk (w : World) (x : S80)  : k80.K w x [.int .i64 x.f0, .int .i64 x.f1] := ⟨[.int .i64 x.f0], [.int .i64 x.f1], rfl, rfl, rfl⟩
theorem k80_mkM (w : World) (base : Nat) (ok : Nat → Prop) (x : S80)  : k80.M w base ok x [.int .i64 x.f0, .int .i64 x.f1] := ⟨[.int .i64 x.f0], [.int .i64 x.f1], rfl, rfl, rfl⟩
def rd_T80 (xs : List S80) (i : Int) : S80 := xs.getD i.toNat z80
structure S84 where
 f0 : Int
 f1 : Int
def z84 : S84 := ⟨(0 : Int), (0 : Int)⟩
def k84 : Kd S84 := Kd.iso (Kd.pair (Kd.int .i64) (Kd.int .i64)) (fun x : S84 => (x.f0, x.f1))
theorem k84_open {w : World} {x : S84} {cs : List Value} (h : k84.K w x cs) : cs = [.int .i64 x.f0, .int .i64 x.f1] := by
 obtain ⟨_, _, rfl, rfl, rfl⟩ := h; exact rfl
theorem k84_openM {w : World} {base : Nat} {ok : Nat → Prop} {x : S84} {cs : List Value} (h : k84.M w base ok x cs) : cs = [.int .i64 x.f0, .int .i64 x.f1] := by
 obtain ⟨_, _, rfl, rfl, rfl⟩ := h; exact rfl
theorem k84_mk (w : World) (x : S84)  : k84.K w x [.int .i64 x.f0, .int .i64 x.f1] := ⟨[.int .i64 x.f0], [.int .i64 x.f1], rfl, rfl, rfl⟩
theorem k84_mkM (w : World) (base : Nat) (ok : Nat → Prop) (x : S84)  : k84.M w base ok x [.int .i64 x.f0, .int .i64 x.f1] := ⟨[.int .i64 x.f0], [.int .i64 x.f1], rfl, rfl, rfl⟩
def rd_T84 (xs : List S84) (i : Int) : S84 := xs.getD i.toNat z84
structure S106 where
 f0 : Int
 f1 : Int
 f2 : Int
def z106 : S106 := ⟨(0 : Int), (0 : Int), (0 : Int)⟩
def k106 : Kd S106 := Kd.iso (Kd.pair (Kd.int .i64) (Kd.pair (Kd.int .i64) (Kd.int .i64))) (fun x : S106 => (x.f0, x.f1, x.f2))
theorem k106_open {w : World} {x : S106} {cs : List Value} (h : k106.K w x cs) : cs = [.int .i64 x.f0, .int .i64 x.f1, .int .i64 x.f2] := by
 obtain ⟨_, _, rfl, rfl, ⟨_, _, rfl, rfl, rfl⟩⟩ := h; exact rfl
theorem k106_openM {w : World} {base : Nat} {ok : Nat → Prop} {x : S106} {cs : List Value} (h : k106.M w base ok x cs) : cs = [.int .i64 x.f0, .int .i64 x.f1, .int .i64 x.f2] := by
 obtain ⟨_, _, rfl, rfl, ⟨_, _, rfl, rfl, rfl⟩⟩ := h; exact rfl
theorem k106_mk (w : World) (x : S106)  : k106.K w x [.int .i64 x.f0, .int .i64 x.f1, .int .i64 x.f2] := ⟨[.int .i64 x.f0], [.int .i64 x.f1, .int .i64 x.f2], rfl, rfl, ⟨[.int .i64 x.f1], [.int .i64 x.f2], rfl, rfl, rfl⟩⟩
theorem k106_mkM (w : World) (base : Nat) (ok : Nat → Prop) (x : S106)  : k106.M w base ok x [.int .i64 x.f0, .int .i64 x.f1, .int .i64 x.f2] := ⟨[.int .i64 x.f0], [.int .i64 x.f1, .int .i64 x.f2], rfl, rfl, ⟨[.int .i64 x.f1], [.int .i64 x.f2], rfl, rfl, rfl⟩⟩
def rd_T106 (xs : List S106) (i : Int) : S106 := xs.getD i.toNat z106
structure S110 where
 f0 : Int
 f1 : Int
 f2 : Int
 f3 : Int
 f4 : Int
def z110 : S110 := ⟨(0 : Int), (0 : Int), (0 : Int), (0 : Int), (0 : Int)⟩
def k110 : Kd S110 := Kd.iso (Kd.pair (Kd.int .i64) (Kd.pair (Kd.int .i64) (Kd.pair (Kd.int .i64) (Kd.pair (Kd.int .i64) (Kd.int .i64))))) (fun x : S110 => (x.f0, x.f1, x.f2, x.f3, x.f4))
theorem k110_open {w : World} {x : S110} {cs : List Value} (h : k110.K w x cs) : cs = [.int .i64 x.f0, .int .i64 x.f1, .int .i64 x.f2, .int .i64 x.f3, .int .i64 x.f4] := by
 obtain ⟨_, _, rfl, rfl, ⟨_, _, rfl, rfl, ⟨_, _, rfl, rfl, ⟨_, _, rfl, rfl, rfl⟩⟩⟩⟩ := h; exact rfl
theorem k110_openM {w : World} {base : Nat} {ok : Nat → Prop} {x : S110} {cs : List Value} (h : k110.M w base ok x cs) : cs = [.int .i64 x.f0, .int .i64 x.f1, .int .i64 x.f2, .int .i64 x.f3, .int .i64 x.f4] := by
 obtain ⟨_, _, rfl, rfl, ⟨_, _, rfl, rfl, ⟨_, _, rfl, rfl, ⟨_, _, rfl, rfl, rfl⟩⟩⟩⟩ := h; exact rfl
theorem k110_mk (w : World) (x : S110)  : k110.K w x [.int .i64 x.f0, .int .i64 x.f1, .int .i64 x.f2, .int .i64 x.f3, .int .i64 x.f4] := ⟨[.int .i64 x.f0], [.int .i64 x.f1, .int .i64 x.f2, .int .i64 x.f3, .int .i64 x.f4], rfl, rfl, ⟨[.int .i64 x.f1], [.int .i64 x.f2, .int .i64 x.f3, .int .i64 x.f4], rfl, rfl, ⟨[.int .i64 x.f2], [.int .i64 x.f3, .int .i64 x.f4], rfl, rfl, ⟨[.int .i64 x.f3], [.int .i64 x.f4], rfl, rfl, rfl⟩⟩⟩⟩
theorem k110_mkM (w : World) (base : Nat) (ok : Nat → Prop) (x : S110)  : k110.M w base ok x [.int .i64 x.f0, .int .i64 x.f1, .int .i64 x.f2, .int .i64 x.f3, .int .i64 x.f4] := ⟨[.int .i64 x.f0], [.int .i64 x.f1, .int .i64 x.f2, .int .i64 x.f3, .int .i64 x.f4], rfl, rfl, ⟨[.int .i64 x.f1], [.int .i64 x.f2, .int .i64 x.f3, .int .i64 x.f4], rfl, rfl, ⟨[.int .i64 x.f2], [.int .i64 x.f3, .int .i64 x.f4], rfl, rfl, ⟨[.int .i64 x.f3], [.int .i64 x.f4], rfl, rfl, rfl⟩⟩⟩⟩
def rd_T110 (xs : List S110) (i : Int) : S110 := xs.getD i.toNat z110
theorem at_T110 {w : World} {A : Option Addr} {n : Nat} {xs : List S110} (h : Kd.C k110 w A n xs) (i : Int) (h0 : 0 ≤ i) (h1 : i < n) : ∃ ad , A = some ad ∧ w.cell? (ad.add (i.toNat * 5)) = some (.int .i64 (rd_T110 xs i).f0) ∧ w.cell? ⟨(ad.add (i.toNat * 5)).block, (ad.add (i.toNat * 5)).off + 1, none⟩ = some (.int .i64 (rd_T110 xs i).f1) ∧ w.cell? ⟨(ad.add (i.toNat * 5)).block, (ad.add (i.toNat * 5)).off + 2, none⟩ = some (.int .i64 (rd_T110 xs i).f2) ∧ w.cell? ⟨(ad.add (i.toNat * 5)).block, (ad.add (i.toNat * 5)).off + 3, none⟩ = some (.int .i64 (rd_T110 xs i).f3) ∧ w.cell? ⟨(ad.add (i.toNat * 5)).block, (ad.add (i.toNat * 5)).off + 4, none⟩ = some (.int .i64 (rd_T110 xs i).f4) := by
 obtain ⟨ad, c, e, _, hK, hc0⟩ := Kd.C_get h z110 i h0 h1; have hc : ∀ j u, c[j]? = some u → w.cell? (ad.add (i.toNat * 5 + j)) = some u := hc0; obtain rfl := k110_open hK; exact ⟨ad, e, hc 0 _ rfl, by rw [← add_field _ _ 1 (by omega)]; exact hc 1 _ rfl, by rw [← add_field _ _ 2 (by omega)]; exact hc 2 _ rfl, by rw [← add_field _ _ 3 (by omega)]; exact hc 3 _ rfl, by rw [← add_field _ _ 4 (by omega)]; exact hc 4 _ rfl⟩
structure S60 where
 f0 : Int
 f1 : Int
 f2 : Int
 f3 : Int
 f4 : Int
 f5 : Int
 f6 : Int
 f7 : Int
def z60 : S60 := ⟨(0 : Int), (0 : Int), (0 : Int), (0 : Int), (0 : Int), (0 : Int), (0 : Int), (0 : Int)⟩
def k60 : Kd S60 := Kd.iso (Kd.pair (Kd.int .i64) (Kd.pair (Kd.int .i64) (Kd.pair (Kd.int .i64) (Kd.pair (Kd.int .i64) (Kd.pair (Kd.int .i64) (Kd.pair (Kd.int .i64) (Kd.pair (Kd.int .i64) (Kd.int .i64)))))))) (fun x : S60 => (x.f0, x.f1, x.f2, x.f3, x.f4, x.f5, x.f6, x.f7))
theorem k60_open {w : World} {x : S60} {cs : List Value} (h : k60.K w x cs) : cs = [.int .i64 x.f0, .int .i64 x.f1, .int .i64 x.f2, .int .i64 x.f3, .int .i64 x.f4, .int .i64 x.f5, .int .i64 x.f6, .int .i64 x.f7] := by
 obtain ⟨_, _, rfl, rfl, ⟨_, _, rfl, rfl, ⟨_, _, rfl, rfl, ⟨_, _, rfl, rfl, ⟨_, _, rfl, rfl, ⟨_, _, rfl, rfl, ⟨_, _, rfl, rfl, rfl⟩⟩⟩⟩⟩⟩⟩ := h; exact rfl
theorem k60_openM {w : World} {base : Nat} {ok : Nat → Prop} {x : S60} {cs : List Value} (h : k60.M w base ok x cs) : cs = [.int .i64 x.f0, .int .i64 x.f1, .int .i64 x.f2, .int .i64 x.f3, .int .i64 x.f4, .int .i64 x.f5, .int .i64 x.f6, .int .i64 x.f7] := by
 obtain ⟨_, _, rfl, rfl, ⟨_, _, rfl, rfl, ⟨_, _, rfl, rfl, ⟨_, _, rfl, rfl, ⟨_, _, rfl, rfl, ⟨_, _, rfl, rfl, ⟨_, _, rfl, rfl, rfl⟩⟩⟩⟩⟩⟩⟩ := h; exact rfl
theorem k60_mk (w : World) (x : S60)  : k60.K w x [.int .i64 x.f0, .int .i64 x.f1, .int .i64 x.f2, .int .i64 x.f3, .int .i64 x.f4, .int .i64 x.f5, .int .i64 x.f6, .int .i64 x.f7] := ⟨[.int .i64 x.f0], [.int .i64 x.f1, .int .i64 x.f2, .int .i64 x.f3, .int .i64 x.f4, .int .i64 x.f5, .int .i64 x.f6, .int .i64 x.f7], rfl, rfl, ⟨[.int .i64 x.f1], [.int .i64 x.f2, .int .i64 x.f3, .int .i64 x.f4, .int .i64 x.f5, .int .i64 x.f6, .int .i64 x.f7], rfl, rfl, ⟨[.int .i64 x.f2], [.int .i64 x.f3, .int .i64 x.f4, .int .i64 x.f5, .int .i64 x.f6, .int .i64 x.f7], rfl, rfl, ⟨[.int .i64 x.f3], [.int .i64 x.f4, .int .i64 x.f5, .int .i64 x.f6, .int .i64 x.f7], rfl, rfl, ⟨[.int .i64 x.f4], [.int .i64 x.f5, .int .i64 x.f6, .int .i64 x.f7], rfl, rfl, ⟨[.int .i64 x.f5], [.int .i64 x.f6, .int .i64 x.f7], rfl, rfl, ⟨[.int .i64 x.f6], [.int .i64 x.f7], rfl, rfl, rfl⟩⟩⟩⟩⟩⟩⟩
theorem k60_mkM (w : World) (base : Nat) (ok : Nat → Prop) (x : S60)  : k60.M w base ok x [.int .i64 x.f0, .int .i64 x.f1, .int .i64 x.f2, .int .i64 x.f3, .int .i64 x.f4, .int .i64 x.f5, .int .i64 x.f6, .int .i64 x.f7] := ⟨[.int .i64 x.f0], [.int .i64 x.f1, .int .i64 x.f2, .int .i64 x.f3, .int .i64 x.f4, .int .i64 x.f5, .int .i64 x.f6, .int .i64 x.f7], rfl, rfl, ⟨[.int .i64 x.f1], [.int .i64 x.f2, .int .i64 x.f3, .int .i64 x.f4, .int .i64 x.f5, .int .i64 x.f6, .int .i64 x.f7], rfl, rfl, ⟨[.int .i64 x.f2], [.int .i64 x.f3, .int .i64 x.f4, .int .i64 x.f5, .int .i64 x.f6, .int .i64 x.f7], rfl, rfl, ⟨[.int .i64 x.f3], [.int .i64 x.f4, .int .i64 x.f5, .int .i64 x.f6, .int .i64 x.f7], rfl, rfl, ⟨[.int .i64 x.f4], [.int .i64 x.f5, .int .i64 x.f6, .int .i64 x.f7], rfl, rfl, ⟨[.int .i64 x.f5], [.int .i64 x.f6, .int .i64 x.f7], rfl, rfl, ⟨[.int .i64 x.f6], [.int .i64 x.f7], rfl, rfl, rfl⟩⟩⟩⟩⟩⟩⟩
def rd_T60 (xs : List S60) (i : Int) : S60 := xs.getD i.toNat z60
theorem at_T60 {w : World} {A : Option Addr} {n : Nat} {xs : List S60} (h : Kd.C k60 w A n xs) (i : Int) (h0 : 0 ≤ i) (h1 : i < n) : ∃ ad , A = some ad ∧ w.cell? (ad.add (i.toNat * 8)) = some (.int .i64 (rd_T60 xs i).f0) ∧ w.cell? ⟨(ad.add (i.toNat * 8)).block, (ad.add (i.toNat * 8)).off + 1, none⟩ = some (.int .i64 (rd_T60 xs i).f1) ∧ w.cell? ⟨(ad.add (i.toNat * 8)).block, (ad.add (i.toNat * 8)).off + 2, none⟩ = some (.int .i64 (rd_T60 xs i).f2) ∧ w.cell? ⟨(ad.add (i.toNat * 8)).block, (ad.add (i.toNat * 8)).off + 3, none⟩ = some (.int .i64 (rd_T60 xs i).f3) ∧ w.cell? ⟨(ad.add (i.toNat * 8)).block, (ad.add (i.toNat * 8)).off + 4, none⟩ = some (.int .i64 (rd_T60 xs i).f4) ∧ w.cell? ⟨(ad.add (i.toNat * 8)).block, (ad.add (i.toNat * 8)).off + 5, none⟩ = some (.int .i64 (rd_T60 xs i).f5) ∧ w.cell? ⟨(ad.add (i.toNat * 8)).block, (ad.add (i.toNat * 8)).off + 6, none⟩ = some (.int .i64 (rd_T60 xs i).f6) ∧ w.cell? ⟨(ad.add (i.toNat * 8)).block, (ad.add (i.toNat * 8)).off + 7, none⟩ = some (.int .i64 (rd_T60 xs i).f7) := by
 obtain ⟨ad, c, e, _, hK, hc0⟩ := Kd.C_get h z60 i h0 h1; have hc : ∀ j u, c[j]? = some u → w.cell? (ad.add (i.toNat * 8 + j)) = some u := hc0; obtain rfl := k60_open hK; exact ⟨ad, e, hc 0 _ rfl, by rw [← add_field _ _ 1 (by omega)]; exact hc 1 _ rfl, by rw [← add_field _ _ 2 (by omega)]; exact hc 2 _ rfl, by rw [← add_field _ _ 3 (by omega)]; exact hc 3 _ rfl, by rw [← add_field _ _ 4 (by omega)]; exact hc 4 _ rfl, by rw [← add_field _ _ 5 (by omega)]; exact hc 5 _ rfl, by rw [← add_field _ _ 6 (by omega)]; exact hc 6 _ rfl, by rw [← add_field _ _ 7 (by omega)]; exact hc 7 _ rfl⟩
structure S93 where
 f0 : Int
 f1 : Int
 f2 : Int
def z93 : S93 := ⟨(0 : Int), (0 : Int), (0 : Int)⟩
def k93 : Kd S93 := Kd.iso (Kd.pair (Kd.int .i64) (Kd.pair (Kd.int .i64) (Kd.int .i64))) (fun x : S93 => (x.f0, x.f1, x.f2))
theorem k93_open {w : World} {x : S93} {cs : List Value} (h : k93.K w x cs) : cs = [.int .i64 x.f0, .int .i64 x.f1, .int .i64 x.f2] := by
 obtain ⟨_, _, rfl, rfl, ⟨_, _, rfl, rfl, rfl⟩⟩ := h; exact rfl
theorem k93_mk (w : World) (x : S93)  : k93.K w x [.int .i64 x.f0, .int .i64 x.f1, .int .i64 x.f2] := ⟨[.int .i64 x.f0], [.int .i64 x.f1, .int .i64 x.f2], rfl, rfl, ⟨[.int .i64 x.f1], [.int .i64 x.f2], rfl, rfl, rfl⟩⟩
def rd_T93 (xs : List S93) (i : Int) : S93 := xs.getD i.toNat z93
theorem at_T93 {w : World} {A : Option Addr} {n : Nat} {xs : List S93} (h : Kd.C k93 w A n xs) (i : Int) (h0 : 0 ≤ i) (h1 : i < n) : ∃ ad , A = some ad ∧ w.cell? (ad.add (i.toNat * 3)) = some (.int .i64 (rd_T93 xs i).f0) ∧ w.cell? ⟨(ad.add (i.toNat * 3)).block, (ad.add (i.toNat * 3)).off + 1, none⟩ = some (.int .i64 (rd_T93 xs i).f1) ∧ w.cell? ⟨(ad.add (i.toNat * 3)).block, (ad.add (i.toNat * 3)).off + 2, none⟩ = some (.int .i64 (rd_T93 xs i).f2) := by
 obtain ⟨ad, c, e, _, hK, hc0⟩ := Kd.C_get h z93 i h0 h1; have hc : ∀ j u, c[j]? = some u → w.cell? (ad.add (i.toNat * 3 + j)) = some u := hc0; obtain rfl := k93_open hK; exact ⟨ad, e, hc 0 _ rfl, by rw [← add_field _ _ 1 (by omega)]; exact hc 1 _ rfl, by rw [← add_field _ _ 2 (by omega)]; exact hc 2 _ rfl⟩
end Go.Proofs.YtmfgajbkcnlkcaaGreat.P
namespace Go.Proofs.YtmfgajbkcnlkcaaGreat.P
open Go.RowKit Go.Proofs.YtmfgajbkcnlkcaaGreatW.PrintWords Go.Proofs.YtmfgajbkcnlkcaaGreatW.PrintLast Go.Proofs.YtmfgajbkcnlkcaaGreatW.PrintMore
attribute [local go_sem] max2_int min2_int max_two min_two max_three min_three max_four min_four   -- for this text's walks alone
set_option linter.unusedVariables false
set_option linter.unusedSimpArgs false
def laws_szAccountS.f (l0 : List (S103)) (a1 : Int) : Option (Int) := if (wrap64 (a1 - (l0.length : Int))) < 0 then (some (-1)) else (some (wrap64 (a1 - (l0.length : Int))))
def laws_szInstrS.f (l0 : List (S105)) (a1 : Int) : Option (Int) := if (wrap64 (a1 - (l0.length : Int))) < 0 then (some (-1)) else (some (wrap64 (a1 - (l0.length : Int))))
def laws_szBalS.f (l0 : List (S108)) (a1 : Int) : Option (Int) := if (wrap64 (a1 - (l0.length : Int))) < 0 then (some (-1)) else (some (wrap64 (a1 - (l0.length : Int))))
def laws_szLotS.f (l0 : List (S112)) (a1 : Int) : Option (Int) := if (wrap64 (a1 - (l0.length : Int))) < 0 then (some (-1)) else (some (wrap64 (a1 - (l0.length : Int))))
def laws_szTradeS.f (l0 : List (S114)) (a1 : Int) : Option (Int) := if (wrap64 (a1 - (l0.length : Int))) < 0 then (some (-1)) else (some (wrap64 (a1 - (l0.length : Int))))
def laws_szBooks.f (l0_0 : List (S103)) (l0_1 : List (S105)) (l0_2 : List (S108)) (l0_3 : List (S112)) (l0_4 : List (S114)) (a0_5 : Int) (a1 : Int) : Option (Int) := (laws_szAccountS.f l0_0 a1).bind fun t102 => (if t102 < 0 then (some (-1)) else ((laws_szInstrS.f l0_1 t102).bind fun t103 => (if t103 < 0 then (some (-1)) else ((laws_szBalS.f l0_2 t103).bind fun t104 => (if t104 < 0 then (some (-1)) else ((laws_szLotS.f l0_3 t104).bind fun t105 => (if t105 < 0 then (some (-1)) else ((laws_szTradeS.f l0_4 t105).bind fun t106 => (if t106 < 0 then (some (-1)) else (some t106))))))))))
def spec_l1In.f (a0 : Int) (a1 : Int) (a2 : Int) : Option (Bool) := if a0 ≥ a1 then (some (decide (a0 ≤ a2))) else (some false)
def spec_l3No.f (a0 : Int) : Option (Bool) := (spec_l1In.f a0 1 1000).bind fun t107 => (some t107)
def spec_AccountsOk.l0 : Nat → List (S80) → Int → Option (Bool)
  | 0, _, _ => none
  | k + 1, x0, x3 => if x3 < (x0.length : Int) then (if 0 ≤ x3 then ((spec_l3No.f ((rd_T80 x0 x3).f0)).bind fun t109 => (if t109 = true then ((spec_l1In.f ((rd_T80 x0 x3).f1) 1 4).bind fun t111 => (if t111 = true then (if x3 > 0 then (if 0 ≤ (wrap64 (x3 - 1)) then (if (wrap64 (x3 - 1)) < (x0.length : Int) then (if ((rd_T80 x0 (wrap64 (x3 - 1))).f0) ≥ ((rd_T80 x0 x3).f0) then (some false) else (spec_AccountsOk.l0 k x0 (wrap64 (x3 + 1)))) else (none)) else (none)) else (spec_AccountsOk.l0 k x0 (wrap64 (x3 + 1)))) else (some false))) else (some false))) else (none)) else (some true)
def spec_AccountsOk.f (k : Nat) (l0 : List (S80)) : Option (Bool) := if (l0.length : Int) > 20 then (some false) else (spec_AccountsOk.l0 k l0 0)
mutual
def spec_AccountKind.l0 : Nat → List (S80) → Int → Int → Option (Int)
  | 0, _, _, _ => none
  | k + 1, x0, x1, x5 => if x5 < (x0.length : Int) then ((spec_AccountsOk.f k x0).bind fun t114 => (spec_AccountKind.j1 k x0 x1 x5 t114)) else (spec_AccountKind.j1 k x0 x1 x5 false)
def spec_AccountKind.j1 : Nat → List (S80) → Int → Int → Bool → Option (Int)
  | 0, _, _, _, _ => none
  | k + 1, x0, x1, x5, x13 => if x13 = true then (if 0 ≤ x5 then (if x5 < (x0.length : Int) then (if ((rd_T80 x0 x5).f0) = x1 then (some ((rd_T80 x0 x5).f1)) else (spec_AccountKind.l0 k x0 x1 (wrap64 (x5 + 1)))) else (none)) else (none)) else (some 0)
end
def spec_AccountKind.f (k : Nat) (l0 : List (S80)) (a1 : Int) : Option (Int) := spec_AccountKind.l0 k l0 a1 0
def spec_InstrsOk.l0 : Nat → List (S84) → Int → Option (Bool)
  | 0, _, _ => none
  | k + 1, x0, x3 => if x3 < (x0.length : Int) then (if 0 ≤ x3 then ((spec_l3No.f ((rd_T84 x0 x3).f0)).bind fun t118 => (if t118 = true then ((spec_l1In.f ((rd_T84 x0 x3).f1) 1 2).bind fun t120 => (if t120 = true then (if x3 > 0 then (if 0 ≤ (wrap64 (x3 - 1)) then (if (wrap64 (x3 - 1)) < (x0.length : Int) then (if ((rd_T84 x0 (wrap64 (x3 - 1))).f0) ≥ ((rd_T84 x0 x3).f0) then (some false) else (spec_InstrsOk.l0 k x0 (wrap64 (x3 + 1)))) else (none)) else (none)) else (spec_InstrsOk.l0 k x0 (wrap64 (x3 + 1)))) else (some false))) else (some false))) else (none)) else (some true)
def spec_InstrsOk.f (k : Nat) (l0 : List (S84)) : Option (Bool) := if (l0.length : Int) > 8 then (some false) else (spec_InstrsOk.l0 k l0 0)
mutual
def spec_InstrKind.l0 : Nat → List (S84) → Int → Int → Option (Int)
  | 0, _, _, _ => none
  | k + 1, x0, x1, x5 => if x5 < (x0.length : Int) then ((spec_InstrsOk.f k x0).bind fun t123 => (spec_InstrKind.j1 k x0 x1 x5 t123)) else (spec_InstrKind.j1 k x0 x1 x5 false)
def spec_InstrKind.j1 : Nat → List (S84) → Int → Int → Bool → Option (Int)
  | 0, _, _, _, _ => none
  | k + 1, x0, x1, x5, x13 => if x13 = true then (if 0 ≤ x5 then (if x5 < (x0.length : Int) then (if ((rd_T84 x0 x5).f0) = x1 then (some ((rd_T84 x0 x5).f1)) else (spec_InstrKind.l0 k x0 x1 (wrap64 (x5 + 1)))) else (none)) else (none)) else (some 0)
end
def spec_InstrKind.f (k : Nat) (l0 : List (S84)) (a1 : Int) : Option (Int) := spec_InstrKind.l0 k l0 a1 0
def spec_AmountOk.f (a0 : Int) : Option (Bool) := (spec_l1In.f a0 (-1000000000000000) 1000000000000000).bind fun t126 => (some t126)
def spec_l4Before.f (a0 : Int) (a1 : Int) (a2 : Int) (a3 : Int) : Option (Bool) := if a0 < a2 then (some true) else (if a0 = a2 then (some (decide (a1 < a3))) else (some false))
def spec_BalsOk.l0 : Nat → List (S106) → Int → Option (Bool)
  | 0, _, _ => none
  | k + 1, x0, x3 => if x3 < (x0.length : Int) then (if 0 ≤ x3 then ((spec_l3No.f ((rd_T106 x0 x3).f0)).bind fun t129 => (if t129 = true then ((spec_l3No.f ((rd_T106 x0 x3).f1)).bind fun t130 => (if t130 = true then ((spec_AmountOk.f ((rd_T106 x0 x3).f2)).bind fun t131 => (if t131 = true then (if ((rd_T106 x0 x3).f2) = 0 then (some false) else (if x3 > 0 then (if 0 ≤ (wrap64 (x3 - 1)) then (if (wrap64 (x3 - 1)) < (x0.length : Int) then ((spec_l4Before.f ((rd_T106 x0 (wrap64 (x3 - 1))).f0) ((rd_T106 x0 (wrap64 (x3 - 1))).f1) ((rd_T106 x0 x3).f0) ((rd_T106 x0 x3).f1)).bind fun t134 => (if t134 = true then (spec_BalsOk.l0 k x0 (wrap64 (x3 + 1))) else (some false))) else (none)) else (none)) else (spec_BalsOk.l0 k x0 (wrap64 (x3 + 1))))) else (some false))) else (some false))) else (some false))) else (none)) else (some true)
def spec_BalsOk.f (k : Nat) (l0 : List (S106)) : Option (Bool) := if (l0.length : Int) > 160 then (some false) else (spec_BalsOk.l0 k l0 0)
def spec_l1Some.f (a0 : Int) (a1 : Int) : Option (Bool) := (spec_l1In.f a0 a1 1000000000000000).bind fun t135 => (some t135)
def spec_l5Right.f (a0_0 : Int) (a0_1 : Int) (a0_2 : Int) (a0_3 : Int) (a0_4 : Int) : Option (Bool) := (spec_l3No.f a0_0).bind fun t137 => (if t137 = true then ((spec_l3No.f a0_1).bind fun t138 => (if t138 = true then ((spec_l1In.f a0_2 1 1000000000).bind fun t139 => (if t139 = true then ((spec_l1Some.f a0_3 1).bind fun t140 => (if t140 = true then ((spec_l1Some.f a0_4 0).bind fun t141 => (some t141)) else (some false))) else (some false))) else (some false))) else (some false))
def spec_l5Before.f (a0_0 : Int) (a0_1 : Int) (a0_2 : Int) (a0_3 : Int) (a0_4 : Int) (a1_0 : Int) (a1_1 : Int) (a1_2 : Int) (a1_3 : Int) (a1_4 : Int) : Option (Bool) := (spec_l4Before.f a0_0 a0_1 a1_0 a1_1).bind fun t144 => (if t144 = true then (some true) else (if a0_0 = a1_0 then (if a0_1 = a1_1 then (some (decide (a0_2 < a1_2))) else (some false)) else (some false)))
mutual
def spec_LotsOk.l0 : Nat → List (S110) → Int → Int → Int → Option (Bool)
  | 0, _, _, _, _ => none
  | k + 1, x0, x3, x4, x5 => if x5 < (x0.length : Int) then (if 0 ≤ x5 then ((spec_l5Right.f ((rd_T110 x0 x5).f0) ((rd_T110 x0 x5).f1) ((rd_T110 x0 x5).f2) ((rd_T110 x0 x5).f3) ((rd_T110 x0 x5).f4)).bind fun t147 => (if t147 = true then (if x5 > 0 then (if 0 ≤ (wrap64 (x5 - 1)) then (if (wrap64 (x5 - 1)) < (x0.length : Int) then ((spec_l5Before.f ((rd_T110 x0 (wrap64 (x5 - 1))).f0) ((rd_T110 x0 (wrap64 (x5 - 1))).f1) ((rd_T110 x0 (wrap64 (x5 - 1))).f2) ((rd_T110 x0 (wrap64 (x5 - 1))).f3) ((rd_T110 x0 (wrap64 (x5 - 1))).f4) ((rd_T110 x0 x5).f0) ((rd_T110 x0 x5).f1) ((rd_T110 x0 x5).f2) ((rd_T110 x0 x5).f3) ((rd_T110 x0 x5).f4)).bind fun t149 => (spec_LotsOk.j1 k x0 x3 x4 x5 (!t149) ((rd_T110 x0 x5).f0) ((rd_T110 x0 x5).f1) ((rd_T110 x0 x5).f2) ((rd_T110 x0 x5).f3) ((rd_T110 x0 x5).f4))) else (none)) else (none)) else (spec_LotsOk.j1 k x0 x3 x4 x5 false ((rd_T110 x0 x5).f0) ((rd_T110 x0 x5).f1) ((rd_T110 x0 x5).f2) ((rd_T110 x0 x5).f3) ((rd_T110 x0 x5).f4))) else (spec_LotsOk.j1 k x0 x3 x4 x5 true ((rd_T110 x0 x5).f0) ((rd_T110 x0 x5).f1) ((rd_T110 x0 x5).f2) ((rd_T110 x0 x5).f3) ((rd_T110 x0 x5).f4)))) else (none)) else (some true)
def spec_LotsOk.j1 : Nat → List (S110) → Int → Int → Int → Bool → Int → Int → Int → Int → Int → Option (Bool)
  | 0, _, _, _, _, _, _, _, _, _, _ => none
  | k + 1, x0, x3, x4, x5, x36, x147000, x147001, x147002, x147003, x147004 => if x36 = true then (some false) else (if x5 = 0 then (spec_LotsOk.j2 k x0 x3 x4 x5 true x147000 x147001 x147002 x147003 x147004) else (if 0 ≤ (wrap64 (x5 - 1)) then (if (wrap64 (x5 - 1)) < (x0.length : Int) then (if x147000 = ((rd_T110 x0 (wrap64 (x5 - 1))).f0) then (spec_LotsOk.j2 k x0 x3 x4 x5 (x147001 != ((rd_T110 x0 (wrap64 (x5 - 1))).f1)) x147000 x147001 x147002 x147003 x147004) else (spec_LotsOk.j2 k x0 x3 x4 x5 true x147000 x147001 x147002 x147003 x147004)) else (none)) else (none)))
def spec_LotsOk.j2 : Nat → List (S110) → Int → Int → Int → Bool → Int → Int → Int → Int → Int → Option (Bool)
  | 0, _, _, _, _, _, _, _, _, _, _ => none
  | k + 1, x0, x3, x4, x5, x60, x147000, x147001, x147002, x147003, x147004 => if x60 = true then (spec_LotsOk.j3 k x0 0 0 x5 x147000 x147001 x147002 x147003 x147004) else (spec_LotsOk.j3 k x0 x3 x4 x5 x147000 x147001 x147002 x147003 x147004)
def spec_LotsOk.j3 : Nat → List (S110) → Int → Int → Int → Int → Int → Int → Int → Int → Option (Bool)
  | 0, _, _, _, _, _, _, _, _, _ => none
  | k + 1, x0, x3, x4, x5, x147000, x147001, x147002, x147003, x147004 => (spec_AmountOk.f (wrap64 (x3 + x147003))).bind fun t152 => (if t152 = true then ((spec_AmountOk.f (wrap64 (x4 + x147004))).bind fun t153 => (if t153 = true then (spec_LotsOk.l0 k x0 (wrap64 (x3 + x147003)) (wrap64 (x4 + x147004)) (wrap64 (x5 + 1))) else (some false))) else (some false))
end
def spec_LotsOk.f (k : Nat) (l0 : List (S110)) : Option (Bool) := if (l0.length : Int) > 120 then (some false) else (spec_LotsOk.l0 k l0 0 0 0)
def spec_TradesOk.l0 : Nat → List (S60) → Int → Option (Bool)
  | 0, _, _ => none
  | k + 1, x0, x3 => if x3 < (x0.length : Int) then (if 0 ≤ x3 then ((spec_l3No.f ((rd_T60 x0 x3).f0)).bind fun t156 => (if t156 = true then ((spec_l3No.f ((rd_T60 x0 x3).f1)).bind fun t157 => (if t157 = true then ((spec_l3No.f ((rd_T60 x0 x3).f2)).bind fun t158 => (if t158 = true then ((spec_l3No.f ((rd_T60 x0 x3).f3)).bind fun t159 => (if t159 = true then ((spec_l3No.f ((rd_T60 x0 x3).f5)).bind fun t160 => (if t160 = true then (if ((rd_T60 x0 x3).f1) = ((rd_T60 x0 x3).f2) then (some false) else ((spec_l1Some.f ((rd_T60 x0 x3).f4) 1).bind fun t161 => (if t161 = true then ((spec_l1Some.f ((rd_T60 x0 x3).f6) 0).bind fun t162 => (if t162 = true then ((spec_l1In.f ((rd_T60 x0 x3).f7) 1 3).bind fun t163 => (if t163 = true then (if x3 > 0 then (if 0 ≤ (wrap64 (x3 - 1)) then (if (wrap64 (x3 - 1)) < (x0.length : Int) then (if ((rd_T60 x0 (wrap64 (x3 - 1))).f0) ≥ ((rd_T60 x0 x3).f0) then (some false) else (spec_TradesOk.l0 k x0 (wrap64 (x3 + 1)))) else (none)) else (none)) else (spec_TradesOk.l0 k x0 (wrap64 (x3 + 1)))) else (some false))) else (some false))) else (some false)))) else (some false))) else (some false))) else (some false))) else (some false))) else (some false))) else (none)) else (some true)
def spec_TradesOk.f (k : Nat) (l0 : List (S60)) : Option (Bool) := if (l0.length : Int) > 30 then (some false) else (spec_TradesOk.l0 k l0 0)
def spec_l1Told.f (a0 : Int) (a1 : Bool) : Option (Int × Bool) := if a1 = true then ((spec_AmountOk.f a0).bind fun t176 => (if t176 = true then (some (a0, true)) else (some (0, false)))) else (some (0, false))
mutual
def spec_BalsSum.l0 : Nat → List (S106) → Int → Int → Int → Option (Int × Bool)
  | 0, _, _, _, _ => none
  | k + 1, x0, x1, x6, x7 => if x7 < (x0.length : Int) then ((spec_BalsOk.f k x0).bind fun t177 => (spec_BalsSum.j1 k x0 x1 x6 x7 t177)) else (spec_BalsSum.j1 k x0 x1 x6 x7 false)
def spec_BalsSum.j1 : Nat → List (S106) → Int → Int → Int → Bool → Option (Int × Bool)
  | 0, _, _, _, _, _ => none
  | k + 1, x0, x1, x6, x7, x15 => if x15 = true then (if 0 ≤ x7 then (if x7 < (x0.length : Int) then (if ((rd_T106 x0 x7).f1) = x1 then (spec_BalsSum.l0 k x0 x1 (wrap64 (x6 + ((rd_T106 x0 x7).f2))) (wrap64 (x7 + 1))) else (spec_BalsSum.l0 k x0 x1 x6 (wrap64 (x7 + 1)))) else (none)) else (none)) else ((spec_BalsOk.f k x0).bind fun t180 => ((spec_l1Told.f x6 t180).bind fun bt181 => (some (bt181.1, bt181.2))))
end
def spec_BalsSum.f (k : Nat) (l0 : List (S106)) (a1 : Int) : Option (Int × Bool) := spec_BalsSum.l0 k l0 a1 0 0
mutual
def spec_l6Bals.l0 : Nat → Int → List (S80) → List (S84) → List (S106) → List (S110) → List (S60) → Int → Option (Bool)
  | 0, _, _, _, _, _, _, _ => none
  | k + 1, x3, x184000, x184001, x184002, x184003, x184004, x184005 => if x3 < (x184002.length : Int) then (if 0 ≤ x3 then ((spec_AccountKind.f k x184000 ((rd_T106 x184002 x3).f0)).bind fun t186 => (if t186 = 0 then (spec_l6Bals.j1 k x3 true x184000 x184001 x184002 x184003 x184004 x184005 ((rd_T106 x184002 x3).f0) ((rd_T106 x184002 x3).f1) ((rd_T106 x184002 x3).f2)) else ((spec_InstrKind.f k x184001 ((rd_T106 x184002 x3).f1)).bind fun t187 => (if t187 = 0 then (spec_l6Bals.j1 k x3 true x184000 x184001 x184002 x184003 x184004 x184005 ((rd_T106 x184002 x3).f0) ((rd_T106 x184002 x3).f1) ((rd_T106 x184002 x3).f2)) else (if t186 = 1 then (spec_l6Bals.j1 k x3 (decide (((rd_T106 x184002 x3).f2) < 0)) x184000 x184001 x184002 x184003 x184004 x184005 ((rd_T106 x184002 x3).f0) ((rd_T106 x184002 x3).f1) ((rd_T106 x184002 x3).f2)) else (spec_l6Bals.j1 k x3 false x184000 x184001 x184002 x184003 x184004 x184005 ((rd_T106 x184002 x3).f0) ((rd_T106 x184002 x3).f1) ((rd_T106 x184002 x3).f2))))))) else (none)) else (some true)
def spec_l6Bals.j1 : Nat → Int → Bool → List (S80) → List (S84) → List (S106) → List (S110) → List (S60) → Int → Int → Int → Int → Option (Bool)
  | 0, _, _, _, _, _, _, _, _, _, _, _ => none
  | k + 1, x3, x43, x184000, x184001, x184002, x184003, x184004, x184005, x186000, x186001, x186002 => if x43 = true then (some false) else ((spec_BalsSum.f k x184002 x186001).bind fun bt188 => (if bt188.2 = true then (if bt188.1 = 0 then (spec_l6Bals.l0 k (wrap64 (x3 + 1)) x184000 x184001 x184002 x184003 x184004 x184005) else (some false)) else (some false)))
end
def spec_l6Bals.f (k : Nat) (l0_0 : List (S80)) (l0_1 : List (S84)) (l0_2 : List (S106)) (l0_3 : List (S110)) (l0_4 : List (S60)) (a0_5 : Int) : Option (Bool) := spec_l6Bals.l0 k 0 l0_0 l0_1 l0_2 l0_3 l0_4 a0_5
def spec_l5Split.l0 : Nat → List (S110) → Int → Int → List (S110) → List (S110) → Int → Option ((List (S110)) × (List (S110)))
  | 0, _, _, _, _, _, _ => none
  | k + 1, x0, x1, x2, x8, x9, x10 => if x10 < (x0.length : Int) then (if 0 ≤ x10 then (if ((rd_T110 x0 x10).f0) = x1 then (if ((rd_T110 x0 x10).f1) = x2 then (if x8.length < 3518437208883 then (spec_l5Split.l0 k x0 x1 x2 (x8 ++ [(⟨(rd_T110 x0 x10).f0, (rd_T110 x0 x10).f1, (rd_T110 x0 x10).f2, (rd_T110 x0 x10).f3, (rd_T110 x0 x10).f4⟩ : S110)]) x9 (wrap64 (x10 + 1))) else (none)) else (if x9.length < 3518437208883 then (spec_l5Split.l0 k x0 x1 x2 x8 (x9 ++ [(⟨(rd_T110 x0 x10).f0, (rd_T110 x0 x10).f1, (rd_T110 x0 x10).f2, (rd_T110 x0 x10).f3, (rd_T110 x0 x10).f4⟩ : S110)]) (wrap64 (x10 + 1))) else (none))) else (if x9.length < 3518437208883 then (spec_l5Split.l0 k x0 x1 x2 x8 (x9 ++ [(⟨(rd_T110 x0 x10).f0, (rd_T110 x0 x10).f1, (rd_T110 x0 x10).f2, (rd_T110 x0 x10).f3, (rd_T110 x0 x10).f4⟩ : S110)]) (wrap64 (x10 + 1))) else (none))) else (none)) else (some (x8, x9))
def spec_l5Split.f (k : Nat) (l0 : List (S110)) (a1 : Int) (a2 : Int) : Option ((List (S110)) × (List (S110))) := spec_l5Split.l0 k l0 a1 a2 (([] : List (S110))) (([] : List (S110))) 0
def spec_l5Qty.l0 : Nat → List (S110) → Int → Int → Option (Int)
  | 0, _, _, _ => none
  | k + 1, x0, x3, x4 => if x4 < (x0.length : Int) then (if 0 ≤ x4 then (spec_l5Qty.l0 k x0 (wrap64 (x3 + ((rd_T110 x0 x4).f3))) (wrap64 (x4 + 1))) else (none)) else (some x3)
def spec_l5Qty.f (k : Nat) (l0 : List (S110)) : Option (Int) := spec_l5Qty.l0 k l0 0 0
def spec_l4Of.l0 : Nat → List (S106) → Int → Int → Int → Option (Int)
  | 0, _, _, _, _ => none
  | k + 1, x0, x1, x2, x7 => if x7 < (x0.length : Int) then (if 0 ≤ x7 then (if ((rd_T106 x0 x7).f0) = x1 then (if ((rd_T106 x0 x7).f1) = x2 then (some ((rd_T106 x0 x7).f2)) else (spec_l4Of.l0 k x0 x1 x2 (wrap64 (x7 + 1)))) else (spec_l4Of.l0 k x0 x1 x2 (wrap64 (x7 + 1)))) else (none)) else (some 0)
def spec_l4Of.f (k : Nat) (l0 : List (S106)) (a1 : Int) (a2 : Int) : Option (Int) := spec_l4Of.l0 k l0 a1 a2 0
mutual
def spec_l6Lots.l0 : Nat → Int → List (S80) → List (S84) → List (S106) → List (S110) → List (S60) → Int → Option (Bool)
  | 0, _, _, _, _, _, _, _ => none
  | k + 1, x3, x215000, x215001, x215002, x215003, x215004, x215005 => if x3 < (x215003.length : Int) then (if 0 ≤ x3 then ((spec_AccountKind.f k x215000 ((rd_T110 x215003 x3).f0)).bind fun t217 => (if t217 = 1 then ((spec_InstrKind.f k x215001 ((rd_T110 x215003 x3).f1)).bind fun t218 => (if t218 = 2 then (if ((rd_T110 x215003 x3).f2) > x215005 then (some false) else (spec_l6Lots.l0 k (wrap64 (x3 + 1)) x215000 x215001 x215002 x215003 x215004 x215005)) else (some false))) else (some false))) else (none)) else (spec_l6Lots.l1 k 0 x215000 x215001 x215002 x215003 x215004 x215005)
def spec_l6Lots.l1 : Nat → Int → List (S80) → List (S84) → List (S106) → List (S110) → List (S60) → Int → Option (Bool)
  | 0, _, _, _, _, _, _, _ => none
  | k + 1, x5, x215000, x215001, x215002, x215003, x215004, x215005 => if x5 < (x215000.length : Int) then (spec_l6Lots.l2 k x5 0 x215000 x215001 x215002 x215003 x215004 x215005) else (some true)
def spec_l6Lots.l2 : Nat → Int → Int → List (S80) → List (S84) → List (S106) → List (S110) → List (S60) → Int → Option (Bool)
  | 0, _, _, _, _, _, _, _, _ => none
  | k + 1, x5, x6, x215000, x215001, x215002, x215003, x215004, x215005 => if x6 < (x215001.length : Int) then (if 0 ≤ x5 then (if x5 < (x215000.length : Int) then (if ((rd_T80 x215000 x5).f1) = 1 then (if 0 ≤ x6 then (spec_l6Lots.j3 k x5 x6 (((rd_T84 x215001 x6).f1) == 2) x215000 x215001 x215002 x215003 x215004 x215005) else (none)) else (spec_l6Lots.j3 k x5 x6 false x215000 x215001 x215002 x215003 x215004 x215005)) else (none)) else (none)) else (spec_l6Lots.l1 k (wrap64 (x5 + 1)) x215000 x215001 x215002 x215003 x215004 x215005)
def spec_l6Lots.j3 : Nat → Int → Int → Bool → List (S80) → List (S84) → List (S106) → List (S110) → List (S60) → Int → Option (Bool)
  | 0, _, _, _, _, _, _, _, _, _ => none
  | k + 1, x5, x6, x71, x215000, x215001, x215002, x215003, x215004, x215005 => if x71 = true then (if 0 ≤ x5 then (if x5 < (x215000.length : Int) then (if 0 ≤ x6 then (if x6 < (x215001.length : Int) then ((spec_l5Split.f k x215003 ((rd_T80 x215000 x5).f0) ((rd_T84 x215001 x6).f0)).bind fun bt223 => ((spec_l5Qty.f k bt223.1).bind fun t229 => ((spec_l4Of.f k x215002 ((rd_T80 x215000 x5).f0) ((rd_T84 x215001 x6).f0)).bind fun t232 => (if t229 = t232 then (spec_l6Lots.l2 k x5 (wrap64 (x6 + 1)) x215000 x215001 x215002 x215003 x215004 x215005) else (some false))))) else (none)) else (none)) else (none)) else (none)) else (spec_l6Lots.l2 k x5 (wrap64 (x6 + 1)) x215000 x215001 x215002 x215003 x215004 x215005)
end
def spec_l6Lots.f (k : Nat) (l0_0 : List (S80)) (l0_1 : List (S84)) (l0_2 : List (S106)) (l0_3 : List (S110)) (l0_4 : List (S60)) (a0_5 : Int) : Option (Bool) := spec_l6Lots.l0 k 0 l0_0 l0_1 l0_2 l0_3 l0_4 a0_5
mutual
def spec_BooksOk.j0 : Nat → Bool → List (S80) → List (S84) → List (S106) → List (S110) → List (S60) → Int → Option (Bool)
  | 0, _, _, _, _, _, _, _ => none
  | k + 1, x48, x234000, x234001, x234002, x234003, x234004, x234005 => if x48 = true then (some false) else (spec_BooksOk.l0 k 0 x234000 x234001 x234002 x234003 x234004 x234005)
def spec_BooksOk.l0 : Nat → Int → List (S80) → List (S84) → List (S106) → List (S110) → List (S60) → Int → Option (Bool)
  | 0, _, _, _, _, _, _, _ => none
  | k + 1, x3, x234000, x234001, x234002, x234003, x234004, x234005 => if x3 < (x234004.length : Int) then (if 0 ≤ x3 then ((spec_AccountKind.f k x234000 ((rd_T60 x234004 x3).f1)).bind fun t244 => (if t244 = 1 then ((spec_AccountKind.f k x234000 ((rd_T60 x234004 x3).f2)).bind fun t245 => (if t245 = 1 then ((spec_InstrKind.f k x234001 ((rd_T60 x234004 x3).f3)).bind fun t246 => (if t246 = 2 then ((spec_InstrKind.f k x234001 ((rd_T60 x234004 x3).f5)).bind fun t247 => (if t247 = 1 then (spec_BooksOk.l0 k (wrap64 (x3 + 1)) x234000 x234001 x234002 x234003 x234004 x234005) else (some false))) else (some false))) else (some false))) else (some false))) else (none)) else (some true)
end
def spec_BooksOk.f (k : Nat) (l0_0 : List (S80)) (l0_1 : List (S84)) (l0_2 : List (S106)) (l0_3 : List (S110)) (l0_4 : List (S60)) (a0_5 : Int) : Option (Bool) := (spec_AccountsOk.f k l0_0).bind fun t234 => (if t234 = true then ((spec_InstrsOk.f k l0_1).bind fun t235 => (if t235 = true then ((spec_BalsOk.f k l0_2).bind fun t236 => (if t236 = true then ((spec_LotsOk.f k l0_3).bind fun t237 => (if t237 = true then ((spec_TradesOk.f k l0_4).bind fun t238 => (if t238 = true then ((spec_l1In.f a0_5 0 1000000000).bind fun t239 => (if t239 = true then ((spec_l6Bals.f k l0_0 l0_1 l0_2 l0_3 l0_4 a0_5).bind fun t240 => (if t240 = true then ((spec_l6Lots.f k l0_0 l0_1 l0_2 l0_3 l0_4 a0_5).bind fun t241 => (spec_BooksOk.j0 k (!t241) l0_0 l0_1 l0_2 l0_3 l0_4 a0_5)) else (spec_BooksOk.j0 k true l0_0 l0_1 l0_2 l0_3 l0_4 a0_5))) else (spec_BooksOk.j0 k true l0_0 l0_1 l0_2 l0_3 l0_4 a0_5))) else (spec_BooksOk.j0 k true l0_0 l0_1 l0_2 l0_3 l0_4 a0_5))) else (spec_BooksOk.j0 k true l0_0 l0_1 l0_2 l0_3 l0_4 a0_5))) else (spec_BooksOk.j0 k true l0_0 l0_1 l0_2 l0_3 l0_4 a0_5))) else (spec_BooksOk.j0 k true l0_0 l0_1 l0_2 l0_3 l0_4 a0_5))) else (spec_BooksOk.j0 k true l0_0 l0_1 l0_2 l0_3 l0_4 a0_5))
def spec_l6Copy.f (l0_0 : List (S80)) (l0_1 : List (S84)) (l0_2 : List (S106)) (l0_3 : List (S110)) (l0_4 : List (S60)) (a0_5 : Int) : Option ((List (S80)) × (List (S84)) × (List (S106)) × (List (S110)) × (List (S60)) × Int) := (some (([] : List (S80)) : List (S80))).bind fun y251 => (if y251.length + l0_0.length < 8796093022208 then ((some (([] : List (S84)) : List (S84))).bind fun y257 => (if y257.length + l0_1.length < 8796093022208 then ((some (([] : List (S106)) : List (S106))).bind fun y263 => (if y263.length + l0_2.length < 5864062014805 then ((some (([] : List (S110)) : List (S110))).bind fun y269 => (if y269.length + l0_3.length < 3518437208883 then ((some (([] : List (S60)) : List (S60))).bind fun y275 => (if y275.length + l0_4.length < 2199023255552 then (some ((y251 ++ l0_0), (y257 ++ l0_1), (y263 ++ l0_2), (y269 ++ l0_3), (y275 ++ l0_4), a0_5)) else (none))) else (none))) else (none))) else (none))) else (none))
end Go.Proofs.YtmfgajbkcnlkcaaGreat.P
namespace Go.Proofs.YtmfgajbkcnlkcaaGreat.P
open Go.RowKit Go.Proofs.YtmfgajbkcnlkcaaGreatW.PrintWords Go.Proofs.YtmfgajbkcnlkcaaGreatW.PrintLast Go.Proofs.YtmfgajbkcnlkcaaGreatW.PrintMore
attribute [local go_sem] max2_int min2_int max_two min_two max_three min_three max_four min_four   -- for this text's walks alone
set_option linter.unusedVariables false
set_option linter.unusedSimpArgs false
def laws_toAccount.f (a0_0 : Int) (a0_1 : Int) : Option (Int × Int) := some (a0_0, a0_1)
def laws_toAccountS.l0 : Nat → List (S103) → List (S80) → Int → Option ((List (S80)))
  | 0, _, _, _ => none
  | k + 1, x0, x3, x4 => if x4 < (x0.length : Int) then (if 0 ≤ x4 then ((laws_toAccount.f ((rd_T103 x0 x4).f0) ((rd_T103 x0 x4).f1)).bind fun bt317 => (if x4 < (x3.length : Int) then (laws_toAccountS.l0 k x0 (x3.set (x4 : Int).toNat (⟨bt317.1, bt317.2⟩ : S80)) (wrap64 (x4 + 1))) else (none))) else (none)) else (some x3)
def laws_toAccountS.f (k : Nat) (l0 : List (S103)) : Option ((List (S80))) := if 0 ≤ (l0.length : Int) then (if ((l0.length : Int) : Int).toNat ≤ 17592186044416 then (laws_toAccountS.l0 k l0 (List.replicate ((l0.length : Int) : Int).toNat z80) 0) else (none)) else (none)
def laws_toInstr.f (a0_0 : Int) (a0_1 : Int) : Option (Int × Int) := some (a0_0, a0_1)
def laws_toInstrS.l0 : Nat → List (S105) → List (S84) → Int → Option ((List (S84)))
  | 0, _, _, _ => none
  | k + 1, x0, x3, x4 => if x4 < (x0.length : Int) then (if 0 ≤ x4 then ((laws_toInstr.f ((rd_T105 x0 x4).f0) ((rd_T105 x0 x4).f1)).bind fun bt327 => (if x4 < (x3.length : Int) then (laws_toInstrS.l0 k x0 (x3.set (x4 : Int).toNat (⟨bt327.1, bt327.2⟩ : S84)) (wrap64 (x4 + 1))) else (none))) else (none)) else (some x3)
def laws_toInstrS.f (k : Nat) (l0 : List (S105)) : Option ((List (S84))) := if 0 ≤ (l0.length : Int) then (if ((l0.length : Int) : Int).toNat ≤ 17592186044416 then (laws_toInstrS.l0 k l0 (List.replicate ((l0.length : Int) : Int).toNat z84) 0) else (none)) else (none)
def laws_toBal.f (a0_0 : Int) (a0_1 : Int) (a0_2 : Int) : Option (Int × Int × Int) := some (a0_0, a0_1, a0_2)
def laws_toBalS.l0 : Nat → List (S108) → List (S106) → Int → Option ((List (S106)))
  | 0, _, _, _ => none
  | k + 1, x0, x3, x4 => if x4 < (x0.length : Int) then (if 0 ≤ x4 then ((laws_toBal.f ((rd_T108 x0 x4).f0) ((rd_T108 x0 x4).f1) ((rd_T108 x0 x4).f2)).bind fun bt337 => (if x4 < (x3.length : Int) then (laws_toBalS.l0 k x0 (x3.set (x4 : Int).toNat (⟨bt337.1, bt337.2.1, bt337.2.2⟩ : S106)) (wrap64 (x4 + 1))) else (none))) else (none)) else (some x3)
def laws_toBalS.f (k : Nat) (l0 : List (S108)) : Option ((List (S106))) := if 0 ≤ (l0.length : Int) then (if ((l0.length : Int) : Int).toNat ≤ 11728124029610 then (laws_toBalS.l0 k l0 (List.replicate ((l0.length : Int) : Int).toNat z106) 0) else (none)) else (none)
def laws_toLot.f (a0_0 : Int) (a0_1 : Int) (a0_2 : Int) (a0_3 : Int) (a0_4 : Int) : Option (Int × Int × Int × Int × Int) := some (a0_0, a0_1, a0_2, a0_3, a0_4)
def laws_toLotS.l0 : Nat → List (S112) → List (S110) → Int → Option ((List (S110)))
  | 0, _, _, _ => none
  | k + 1, x0, x3, x4 => if x4 < (x0.length : Int) then (if 0 ≤ x4 then ((laws_toLot.f ((rd_T112 x0 x4).f0) ((rd_T112 x0 x4).f1) ((rd_T112 x0 x4).f2) ((rd_T112 x0 x4).f3) ((rd_T112 x0 x4).f4)).bind fun bt348 => (if x4 < (x3.length : Int) then (laws_toLotS.l0 k x0 (x3.set (x4 : Int).toNat (⟨bt348.1, bt348.2.1, bt348.2.2.1, bt348.2.2.2.1, bt348.2.2.2.2⟩ : S110)) (wrap64 (x4 + 1))) else (none))) else (none)) else (some x3)
def laws_toLotS.f (k : Nat) (l0 : List (S112)) : Option ((List (S110))) := if 0 ≤ (l0.length : Int) then (if ((l0.length : Int) : Int).toNat ≤ 7036874417766 then (laws_toLotS.l0 k l0 (List.replicate ((l0.length : Int) : Int).toNat z110) 0) else (none)) else (none)
def laws_toTrade.f (a0_0 : Int) (a0_1 : Int) (a0_2 : Int) (a0_3 : Int) (a0_4 : Int) (a0_5 : Int) (a0_6 : Int) (a0_7 : Int) : Option (Int × Int × Int × Int × Int × Int × Int × Int) := some (a0_0, a0_1, a0_2, a0_3, a0_4, a0_5, a0_6, a0_7)
def laws_toTradeS.l0 : Nat → List (S114) → List (S60) → Int → Option ((List (S60)))
  | 0, _, _, _ => none
  | k + 1, x0, x3, x4 => if x4 < (x0.length : Int) then (if 0 ≤ x4 then ((laws_toTrade.f ((rd_T114 x0 x4).f0) ((rd_T114 x0 x4).f1) ((rd_T114 x0 x4).f2) ((rd_T114 x0 x4).f3) ((rd_T114 x0 x4).f4) ((rd_T114 x0 x4).f5) ((rd_T114 x0 x4).f6) ((rd_T114 x0 x4).f7)).bind fun bt361 => (if x4 < (x3.length : Int) then (laws_toTradeS.l0 k x0 (x3.set (x4 : Int).toNat (⟨bt361.1, bt361.2.1, bt361.2.2.1, bt361.2.2.2.1, bt361.2.2.2.2.1, bt361.2.2.2.2.2.1, bt361.2.2.2.2.2.2.1, bt361.2.2.2.2.2.2.2⟩ : S60)) (wrap64 (x4 + 1))) else (none))) else (none)) else (some x3)
def laws_toTradeS.f (k : Nat) (l0 : List (S114)) : Option ((List (S60))) := if 0 ≤ (l0.length : Int) then (if ((l0.length : Int) : Int).toNat ≤ 4398046511104 then (laws_toTradeS.l0 k l0 (List.replicate ((l0.length : Int) : Int).toNat z60) 0) else (none)) else (none)
def laws_toBooks.f (k : Nat) (l0_0 : List (S103)) (l0_1 : List (S105)) (l0_2 : List (S108)) (l0_3 : List (S112)) (l0_4 : List (S114)) (a0_5 : Int) : Option ((List (S80)) × (List (S84)) × (List (S106)) × (List (S110)) × (List (S60)) × Int) := (laws_toAccountS.f k l0_0).bind fun t373 => ((laws_toInstrS.f k l0_1).bind fun t376 => ((laws_toBalS.f k l0_2).bind fun t379 => ((laws_toLotS.f k l0_3).bind fun t382 => ((laws_toTradeS.f k l0_4).bind fun t385 => (some (t373, t376, t379, t382, t385, a0_5))))))
def impl_in.f (a0 : Int) (a1 : Int) (a2 : Int) : Option (Bool) := if a0 ≥ a1 then (some (decide (a0 ≤ a2))) else (some false)
def impl_isNo.f (a0 : Int) : Option (Bool) := (impl_in.f a0 1 1000).bind fun t388 => (some t388)
def impl_AccountsOk.l0 : Nat → List (S80) → List (S80) → Int → Int → Option (Bool)
  | 0, _, _, _, _ => none
  | k + 1, x0, x5, x6, x7 => if x7 < x6 then (if 0 ≤ x7 then (if x7 < (x5.length : Int) then ((impl_isNo.f ((rd_T80 x5 x7).f0)).bind fun t391 => (if t391 = true then ((impl_in.f ((rd_T80 x5 x7).f1) 1 4).bind fun t392 => (if t392 = true then (if x7 > 0 then (if 0 ≤ (wrap64 (x7 - 1)) then (if (wrap64 (x7 - 1)) < (x0.length : Int) then (if ((rd_T80 x0 (wrap64 (x7 - 1))).f0) ≥ ((rd_T80 x5 x7).f0) then (some false) else (impl_AccountsOk.l0 k x0 x5 x6 (wrap64 (x7 + 1)))) else (none)) else (none)) else (impl_AccountsOk.l0 k x0 x5 x6 (wrap64 (x7 + 1)))) else (some false))) else (some false))) else (none)) else (none)) else (some (decide ((x0.length : Int) ≤ 20)))
def impl_AccountsOk.f (k : Nat) (l0 : List (S80)) : Option (Bool) := impl_AccountsOk.l0 k l0 l0 (l0.length : Int) 0
def impl_InstrsOk.l0 : Nat → List (S84) → List (S84) → Int → Int → Option (Bool)
  | 0, _, _, _, _ => none
  | k + 1, x0, x5, x6, x7 => if x7 < x6 then (if 0 ≤ x7 then (if x7 < (x5.length : Int) then ((impl_isNo.f ((rd_T84 x5 x7).f0)).bind fun t396 => (if t396 = true then ((impl_in.f ((rd_T84 x5 x7).f1) 1 2).bind fun t397 => (if t397 = true then (if x7 > 0 then (if 0 ≤ (wrap64 (x7 - 1)) then (if (wrap64 (x7 - 1)) < (x0.length : Int) then (if ((rd_T84 x0 (wrap64 (x7 - 1))).f0) ≥ ((rd_T84 x5 x7).f0) then (some false) else (impl_InstrsOk.l0 k x0 x5 x6 (wrap64 (x7 + 1)))) else (none)) else (none)) else (impl_InstrsOk.l0 k x0 x5 x6 (wrap64 (x7 + 1)))) else (some false))) else (some false))) else (none)) else (none)) else (some (decide ((x0.length : Int) ≤ 8)))
def impl_InstrsOk.f (k : Nat) (l0 : List (S84)) : Option (Bool) := impl_InstrsOk.l0 k l0 l0 (l0.length : Int) 0
def impl_AmountOk.f (a0 : Int) : Option (Bool) := (impl_in.f a0 (-1000000000000000) 1000000000000000).bind fun t399 => (some t399)
def impl_byBoth.j0 : Nat → Int → Int → Int → Int → Bool → Option (Int)
  | 0, _, _, _, _, _ => none
  | k + 1, x0, x1, x2, x3, x9 => if x9 = true then (some (-1)) else (if x0 = x2 then (if x1 = x3 then (some 0) else (some 1)) else (some 1))
def impl_byBoth.f (k : Nat) (a0 : Int) (a1 : Int) (a2 : Int) (a3 : Int) : Option (Int) := if a0 < a2 then (impl_byBoth.j0 k a0 a1 a2 a3 true) else (if a0 = a2 then (impl_byBoth.j0 k a0 a1 a2 a3 (decide (a1 < a3))) else (impl_byBoth.j0 k a0 a1 a2 a3 false))
mutual
def impl_BalsOk.l0 : Nat → List (S106) → List (S106) → Int → Int → Option (Bool)
  | 0, _, _, _, _ => none
  | k + 1, x0, x5, x6, x7 => if x7 < x6 then (if 0 ≤ x7 then (if x7 < (x5.length : Int) then ((impl_isNo.f ((rd_T106 x5 x7).f0)).bind fun t402 => (if t402 = true then ((impl_isNo.f ((rd_T106 x5 x7).f1)).bind fun t403 => (if t403 = true then ((impl_AmountOk.f ((rd_T106 x5 x7).f2)).bind fun t404 => (if t404 = true then (impl_BalsOk.j1 k x0 x7 x5 x6 x7 (((rd_T106 x5 x7).f2) == 0) ((rd_T106 x5 x7).f0) ((rd_T106 x5 x7).f1) ((rd_T106 x5 x7).f2)) else (impl_BalsOk.j1 k x0 x7 x5 x6 x7 true ((rd_T106 x5 x7).f0) ((rd_T106 x5 x7).f1) ((rd_T106 x5 x7).f2)))) else (impl_BalsOk.j1 k x0 x7 x5 x6 x7 true ((rd_T106 x5 x7).f0) ((rd_T106 x5 x7).f1) ((rd_T106 x5 x7).f2)))) else (impl_BalsOk.j1 k x0 x7 x5 x6 x7 true ((rd_T106 x5 x7).f0) ((rd_T106 x5 x7).f1) ((rd_T106 x5 x7).f2)))) else (none)) else (none)) else (some (decide ((x0.length : Int) ≤ 160)))
def impl_BalsOk.j1 : Nat → List (S106) → Int → List (S106) → Int → Int → Bool → Int → Int → Int → Option (Bool)
  | 0, _, _, _, _, _, _, _, _, _ => none
  | k + 1, x0, x3, x5, x6, x7, x32, x402000, x402001, x402002 => if x32 = true then (some false) else (if x3 > 0 then (if 0 ≤ (wrap64 (x3 - 1)) then (if (wrap64 (x3 - 1)) < (x0.length : Int) then ((impl_byBoth.f k ((rd_T106 x0 (wrap64 (x3 - 1))).f0) ((rd_T106 x0 (wrap64 (x3 - 1))).f1) x402000 x402001).bind fun t407 => (if t407 ≥ 0 then (some false) else (impl_BalsOk.l0 k x0 x5 x6 (wrap64 (x7 + 1))))) else (none)) else (none)) else (impl_BalsOk.l0 k x0 x5 x6 (wrap64 (x7 + 1))))
end
def impl_BalsOk.f (k : Nat) (l0 : List (S106)) : Option (Bool) := impl_BalsOk.l0 k l0 l0 (l0.length : Int) 0
def impl_lotForm.f (a0_0 : Int) (a0_1 : Int) (a0_2 : Int) (a0_3 : Int) (a0_4 : Int) : Option (Bool) := (impl_isNo.f a0_0).bind fun t409 => (if t409 = true then ((impl_isNo.f a0_1).bind fun t410 => (if t410 = true then ((impl_in.f a0_2 1 1000000000).bind fun t411 => (if t411 = true then ((impl_in.f a0_3 1 1000000000000000).bind fun t412 => (if t412 = true then ((impl_in.f a0_4 0 1000000000000000).bind fun t413 => (some t413)) else (some false))) else (some false))) else (some false))) else (some false))
def impl_lotBefore.f (k : Nat) (a0_0 : Int) (a0_1 : Int) (a0_2 : Int) (a0_3 : Int) (a0_4 : Int) (a1_0 : Int) (a1_1 : Int) (a1_2 : Int) (a1_3 : Int) (a1_4 : Int) : Option (Int) := (impl_byBoth.f k a0_0 a0_1 a1_0 a1_1).bind fun t416 => (if t416 = 0 then (if a0_2 < a1_2 then (some (-1)) else (if a0_2 > a1_2 then (some 1) else (some 0))) else (some t416))
def impl_sumLots.l0 : Nat → Int → Int → List (S110) → Int → Int → Option (Int × Int)
  | 0, _, _, _, _, _ => none
  | k + 1, x4, x5, x8, x9, x10 => if x10 < x9 then (if 0 ≤ x10 then (if x10 < (x8.length : Int) then (impl_sumLots.l0 k (wrap64 (x4 + ((rd_T110 x8 x10).f3))) (wrap64 (x5 + ((rd_T110 x8 x10).f4))) x8 x9 (wrap64 (x10 + 1))) else (none)) else (none)) else (some (x4, x5))
def impl_sumLots.f (k : Nat) (l0 : List (S110)) : Option (Int × Int) := impl_sumLots.l0 k 0 0 l0 (l0.length : Int) 0
def impl_Lot_100.f (l0 : List (S110)) : Option ((List (S110))) := (some (([] : List (S110)) : List (S110))).bind fun y419 => (if y419.length + l0.length < 3518437208883 then (some (y419 ++ l0)) else (none))
def impl_isLot.f (a0_0 : Int) (a0_1 : Int) (a0_2 : Int) (a0_3 : Int) (a0_4 : Int) (a1 : Int) (a2 : Int) : Option (Bool) := if a0_0 = a1 then (some (a0_1 == a2)) else (some false)
def impl_lotsOf.f (l0 : List (S110)) (a1 a2 : Int) : Option (List (S110)) := if l0.length < 1048577 then some (l0.filter fun x => decide (x.f0 = a1 ∧ x.f1 = a2)) else none
def impl_LotsOk.form (x : S110) : Bool := decide ((1 ≤ x.f0 ∧ x.f0 ≤ 1000) ∧ (1 ≤ x.f1 ∧ x.f1 ≤ 1000) ∧ (1 ≤ x.f2 ∧ x.f2 ≤ 1000000000) ∧ (1 ≤ x.f3 ∧ x.f3 ≤ 1000000000000000) ∧ 0 ≤ x.f4 ∧ x.f4 ≤ 1000000000000000)
def impl_LotsOk.cmp (a b : S110) : Int := if a.f0 < b.f0 then -1 else if b.f0 < a.f0 then 1 else if a.f1 < b.f1 then -1 else if b.f1 < a.f1 then 1 else if a.f2 < b.f2 then -1 else if b.f2 < a.f2 then 1 else 0
def impl_LotsOk.chk (l : List (S110)) : Nat → Nat → Bool
  | 0, _ => true
  | n + 1, i => if impl_LotsOk.form (l.getD i z110) = true ∧ ¬(0 < i ∧ 0 ≤ impl_LotsOk.cmp (l.getD (i - 1) z110) (l.getD i z110)) then impl_LotsOk.chk l n (i + 1) else false
def impl_LotsOk.sum3 (l : List (S110)) (q : Int) : Int := l.foldl (fun q x => wrap64 (q + x.f3)) q
def impl_LotsOk.sum4 (l : List (S110)) (q : Int) : Int := l.foldl (fun q x => wrap64 (q + x.f4)) q
def impl_LotsOk.amt (a : Int) : Bool := decide (-1000000000000000 ≤ a ∧ a ≤ 1000000000000000)
def impl_LotsOk.of (l : List (S110)) (a b : Int) : List (S110) := l.filter fun x => decide (x.f0 = a ∧ x.f1 = b)
def impl_LotsOk.over (l : List (S110)) (x : S110) : Bool := if impl_LotsOk.amt (impl_LotsOk.sum3 (impl_LotsOk.of l x.f0 x.f1) 0) = true then !impl_LotsOk.amt (impl_LotsOk.sum4 (impl_LotsOk.of l x.f0 x.f1) 0) else true
def impl_LotsOk.ok (l : List (S110)) : Bool := if impl_LotsOk.chk l l.length 0 = true then (if (l.length : Int) > 120 then false else !(l.any (impl_LotsOk.over l))) else false
def impl_LotsOk.f (l0 : List (S110)) : Option Bool := if l0.length < 1048577 then some (impl_LotsOk.ok l0) else none
mutual
def impl_TradesOk.l0 : Nat → List (S60) → List (S60) → Int → Int → Option (Bool)
  | 0, _, _, _, _ => none
  | k + 1, x0, x5, x6, x7 => if x7 < x6 then (if 0 ≤ x7 then (if x7 < (x5.length : Int) then ((impl_isNo.f ((rd_T60 x5 x7).f0)).bind fun t428 => (if t428 = true then ((impl_isNo.f ((rd_T60 x5 x7).f1)).bind fun t429 => (if t429 = true then ((impl_isNo.f ((rd_T60 x5 x7).f2)).bind fun t430 => (if t430 = true then ((impl_isNo.f ((rd_T60 x5 x7).f3)).bind fun t431 => (if t431 = true then ((impl_isNo.f ((rd_T60 x5 x7).f5)).bind fun t432 => (if t432 = true then (impl_TradesOk.j1 k x0 x7 x5 x6 x7 (((rd_T60 x5 x7).f1) == ((rd_T60 x5 x7).f2)) ((rd_T60 x5 x7).f0) ((rd_T60 x5 x7).f1) ((rd_T60 x5 x7).f2) ((rd_T60 x5 x7).f3) ((rd_T60 x5 x7).f4) ((rd_T60 x5 x7).f5) ((rd_T60 x5 x7).f6) ((rd_T60 x5 x7).f7)) else (impl_TradesOk.j1 k x0 x7 x5 x6 x7 true ((rd_T60 x5 x7).f0) ((rd_T60 x5 x7).f1) ((rd_T60 x5 x7).f2) ((rd_T60 x5 x7).f3) ((rd_T60 x5 x7).f4) ((rd_T60 x5 x7).f5) ((rd_T60 x5 x7).f6) ((rd_T60 x5 x7).f7)))) else (impl_TradesOk.j1 k x0 x7 x5 x6 x7 true ((rd_T60 x5 x7).f0) ((rd_T60 x5 x7).f1) ((rd_T60 x5 x7).f2) ((rd_T60 x5 x7).f3) ((rd_T60 x5 x7).f4) ((rd_T60 x5 x7).f5) ((rd_T60 x5 x7).f6) ((rd_T60 x5 x7).f7)))) else (impl_TradesOk.j1 k x0 x7 x5 x6 x7 true ((rd_T60 x5 x7).f0) ((rd_T60 x5 x7).f1) ((rd_T60 x5 x7).f2) ((rd_T60 x5 x7).f3) ((rd_T60 x5 x7).f4) ((rd_T60 x5 x7).f5) ((rd_T60 x5 x7).f6) ((rd_T60 x5 x7).f7)))) else (impl_TradesOk.j1 k x0 x7 x5 x6 x7 true ((rd_T60 x5 x7).f0) ((rd_T60 x5 x7).f1) ((rd_T60 x5 x7).f2) ((rd_T60 x5 x7).f3) ((rd_T60 x5 x7).f4) ((rd_T60 x5 x7).f5) ((rd_T60 x5 x7).f6) ((rd_T60 x5 x7).f7)))) else (impl_TradesOk.j1 k x0 x7 x5 x6 x7 true ((rd_T60 x5 x7).f0) ((rd_T60 x5 x7).f1) ((rd_T60 x5 x7).f2) ((rd_T60 x5 x7).f3) ((rd_T60 x5 x7).f4) ((rd_T60 x5 x7).f5) ((rd_T60 x5 x7).f6) ((rd_T60 x5 x7).f7)))) else (none)) else (none)) else (some (decide ((x0.length : Int) ≤ 30)))
def impl_TradesOk.j1 : Nat → List (S60) → Int → List (S60) → Int → Int → Bool → Int → Int → Int → Int → Int → Int → Int → Int → Option (Bool)
  | 0, _, _, _, _, _, _, _, _, _, _, _, _, _, _ => none
  | k + 1, x0, x3, x5, x6, x7, x46, x428000, x428001, x428002, x428003, x428004, x428005, x428006, x428007 => if x46 = true then (some false) else ((impl_in.f x428004 1 1000000000000000).bind fun t433 => (if t433 = true then ((impl_in.f x428006 0 1000000000000000).bind fun t434 => (if t434 = true then ((impl_in.f x428007 1 3).bind fun t435 => (if t435 = true then (if x3 > 0 then (if 0 ≤ (wrap64 (x3 - 1)) then (if (wrap64 (x3 - 1)) < (x0.length : Int) then (if ((rd_T60 x0 (wrap64 (x3 - 1))).f0) ≥ x428000 then (some false) else (impl_TradesOk.l0 k x0 x5 x6 (wrap64 (x7 + 1)))) else (none)) else (none)) else (impl_TradesOk.l0 k x0 x5 x6 (wrap64 (x7 + 1)))) else (some false))) else (some false))) else (some false)))
end
def impl_TradesOk.f (k : Nat) (l0 : List (S60)) : Option (Bool) := impl_TradesOk.l0 k l0 l0 (l0.length : Int) 0
def impl_accountKind.l0 : Nat → Int → List (S80) → Int → Int → Option (Int)
  | 0, _, _, _, _ => none
  | k + 1, x1, x7, x8, x9 => if x9 < x8 then (if 0 ≤ x9 then (if x9 < (x7.length : Int) then (if ((rd_T80 x7 x9).f0) = x1 then (some ((rd_T80 x7 x9).f1)) else (impl_accountKind.l0 k x1 x7 x8 (wrap64 (x9 + 1)))) else (none)) else (none)) else (some 0)
def impl_accountKind.f (k : Nat) (l0 : List (S80)) (a1 : Int) : Option (Int) := impl_accountKind.l0 k a1 l0 (l0.length : Int) 0
def impl_instrKind.l0 : Nat → Int → List (S84) → Int → Int → Option (Int)
  | 0, _, _, _, _ => none
  | k + 1, x1, x7, x8, x9 => if x9 < x8 then (if 0 ≤ x9 then (if x9 < (x7.length : Int) then (if ((rd_T84 x7 x9).f0) = x1 then (some ((rd_T84 x7 x9).f1)) else (impl_instrKind.l0 k x1 x7 x8 (wrap64 (x9 + 1)))) else (none)) else (none)) else (some 0)
def impl_instrKind.f (k : Nat) (l0 : List (S84)) (a1 : Int) : Option (Int) := impl_instrKind.l0 k a1 l0 (l0.length : Int) 0
def impl_balsSum.l0 : Nat → Int → Int → List (S106) → Int → Int → Option (Int)
  | 0, _, _, _, _, _ => none
  | k + 1, x1, x5, x8, x9, x10 => if x10 < x9 then (if 0 ≤ x10 then (if x10 < (x8.length : Int) then (if ((rd_T106 x8 x10).f1) = x1 then (impl_balsSum.l0 k x1 (wrap64 (x5 + ((rd_T106 x8 x10).f2))) x8 x9 (wrap64 (x10 + 1))) else (impl_balsSum.l0 k x1 x5 x8 x9 (wrap64 (x10 + 1)))) else (none)) else (none)) else (some x5)
def impl_balsSum.f (k : Nat) (l0 : List (S106)) (a1 : Int) : Option (Int) := impl_balsSum.l0 k a1 0 l0 (l0.length : Int) 0
def impl_balsRight.l0 : Nat → List (S106) → Int → Int → List (S80) → List (S84) → List (S106) → List (S110) → List (S60) → Int → Option (Bool)
  | 0, _, _, _, _, _, _, _, _, _ => none
  | k + 1, x7, x8, x9, x444000, x444001, x444002, x444003, x444004, x444005 => if x9 < x8 then (if 0 ≤ x9 then (if x9 < (x7.length : Int) then ((impl_accountKind.f k x444000 ((rd_T106 x7 x9).f0)).bind fun t446 => (if t446 = 0 then (some false) else ((impl_instrKind.f k x444001 ((rd_T106 x7 x9).f1)).bind fun t447 => (if t447 = 0 then (some false) else (if t446 = 1 then (if ((rd_T106 x7 x9).f2) < 0 then (some false) else ((impl_balsSum.f k x444002 ((rd_T106 x7 x9).f1)).bind fun t448 => (if t448 = 0 then (impl_balsRight.l0 k x7 x8 (wrap64 (x9 + 1)) x444000 x444001 x444002 x444003 x444004 x444005) else (some false)))) else ((impl_balsSum.f k x444002 ((rd_T106 x7 x9).f1)).bind fun t449 => (if t449 = 0 then (impl_balsRight.l0 k x7 x8 (wrap64 (x9 + 1)) x444000 x444001 x444002 x444003 x444004 x444005) else (some false)))))))) else (none)) else (none)) else (some true)
def impl_balsRight.f (k : Nat) (l0_0 : List (S80)) (l0_1 : List (S84)) (l0_2 : List (S106)) (l0_3 : List (S110)) (l0_4 : List (S60)) (a0_5 : Int) : Option (Bool) := impl_balsRight.l0 k l0_2 (l0_2.length : Int) 0 l0_0 l0_1 l0_2 l0_3 l0_4 a0_5
def impl_balAt.l0 : Nat → List (S106) → Int → Int → List (S106) → Int → Int → Option (Int × Bool)
  | 0, _, _, _, _, _, _ => none
  | k + 1, x0, x1, x2, x11, x12, x13 => if x13 < x12 then (if 0 ≤ x13 then (if x13 < (x11.length : Int) then ((impl_byBoth.f k ((rd_T106 x11 x13).f0) ((rd_T106 x11 x13).f1) x1 x2).bind fun t452 => (if t452 ≥ 0 then (some (x13, (t452 == 0))) else (impl_balAt.l0 k x0 x1 x2 x11 x12 (wrap64 (x13 + 1))))) else (none)) else (none)) else (some ((x0.length : Int), false))
def impl_balAt.f (k : Nat) (l0 : List (S106)) (a1 : Int) (a2 : Int) : Option (Int × Bool) := impl_balAt.l0 k l0 a1 a2 l0 (l0.length : Int) 0
def impl_balOf.f (k : Nat) (l0 : List (S106)) (a1 : Int) (a2 : Int) : Option (Int) := (impl_balAt.f k l0 a1 a2).bind fun bt453 => (if bt453.2 = true then (if 0 ≤ bt453.1 then (if bt453.1 < (l0.length : Int) then (some ((rd_T106 l0 bt453.1).f2)) else (none)) else (none)) else (some 0))
end Go.Proofs.YtmfgajbkcnlkcaaGreat.P
namespace Go.Proofs.YtmfgajbkcnlkcaaGreat.P
open Go.RowKit Go.Proofs.YtmfgajbkcnlkcaaGreatW.PrintWords Go.Proofs.YtmfgajbkcnlkcaaGreatW.PrintLast Go.Proofs.YtmfgajbkcnlkcaaGreatW.PrintMore
attribute [local go_sem] max2_int min2_int max_two min_two max_three min_three max_four min_four   -- for this text's walks alone
set_option linter.unusedVariables false
set_option linter.unusedSimpArgs false
mutual
def impl_lotsRight.l0 : Nat → List (S110) → Int → Int → List (S80) → List (S84) → List (S106) → List (S110) → List (S60) → Int → Option (Bool)
  | 0, _, _, _, _, _, _, _, _, _ => none
  | k + 1, x12, x13, x14, x457000, x457001, x457002, x457003, x457004, x457005 => if x14 < x13 then (if 0 ≤ x14 then (if x14 < (x12.length : Int) then ((impl_accountKind.f k x457000 ((rd_T110 x12 x14).f0)).bind fun t459 => (if t459 = 1 then ((impl_instrKind.f k x457001 ((rd_T110 x12 x14).f1)).bind fun t460 => (if t460 = 2 then (if ((rd_T110 x12 x14).f2) > x457005 then (some false) else (impl_lotsRight.l0 k x12 x13 (wrap64 (x14 + 1)) x457000 x457001 x457002 x457003 x457004 x457005)) else (some false))) else (some false))) else (none)) else (none)) else (impl_lotsRight.l1 k x457000 (x457000.length : Int) 0 x457000 x457001 x457002 x457003 x457004 x457005)
def impl_lotsRight.l1 : Nat → List (S80) → Int → Int → List (S80) → List (S84) → List (S106) → List (S110) → List (S60) → Int → Option (Bool)
  | 0, _, _, _, _, _, _, _, _, _ => none
  | k + 1, x41, x42, x43, x457000, x457001, x457002, x457003, x457004, x457005 => if x43 < x42 then (if 0 ≤ x43 then (if x43 < (x41.length : Int) then (impl_lotsRight.l2 k x41 x42 x43 x457001 (x457001.length : Int) 0 x457000 x457001 x457002 x457003 x457004 x457005 ((rd_T80 x41 x43).f0) ((rd_T80 x41 x43).f1)) else (none)) else (none)) else (some true)
def impl_lotsRight.l2 : Nat → List (S80) → Int → Int → List (S84) → Int → Int → List (S80) → List (S84) → List (S106) → List (S110) → List (S60) → Int → Int → Int → Option (Bool)
  | 0, _, _, _, _, _, _, _, _, _, _, _, _, _, _ => none
  | k + 1, x41, x42, x43, x48, x49, x50, x457000, x457001, x457002, x457003, x457004, x457005, x463000, x463001 => if x50 < x49 then (if 0 ≤ x50 then (if x50 < (x48.length : Int) then (if x463001 = 1 then (impl_lotsRight.j3 k x41 x42 x43 x48 x49 x50 (((rd_T84 x48 x50).f1) != 2) x457000 x457001 x457002 x457003 x457004 x457005 x463000 x463001 ((rd_T84 x48 x50).f0) ((rd_T84 x48 x50).f1)) else (impl_lotsRight.j3 k x41 x42 x43 x48 x49 x50 true x457000 x457001 x457002 x457003 x457004 x457005 x463000 x463001 ((rd_T84 x48 x50).f0) ((rd_T84 x48 x50).f1))) else (none)) else (none)) else (impl_lotsRight.l1 k x41 x42 (wrap64 (x43 + 1)) x457000 x457001 x457002 x457003 x457004 x457005)
def impl_lotsRight.j3 : Nat → List (S80) → Int → Int → List (S84) → Int → Int → Bool → List (S80) → List (S84) → List (S106) → List (S110) → List (S60) → Int → Int → Int → Int → Int → Option (Bool)
  | 0, _, _, _, _, _, _, _, _, _, _, _, _, _, _, _, _, _ => none
  | k + 1, x41, x42, x43, x48, x49, x50, x61, x457000, x457001, x457002, x457003, x457004, x457005, x463000, x463001, x465000, x465001 => if x61 = true then (impl_lotsRight.l2 k x41 x42 x43 x48 x49 (wrap64 (x50 + 1)) x457000 x457001 x457002 x457003 x457004 x457005 x463000 x463001) else ((impl_lotsOf.f x457003 x463000 x465000).bind fun t465 => ((impl_sumLots.f k t465).bind fun bt468 => ((impl_balOf.f k x457002 x463000 x465000).bind fun t470 => (if bt468.1 = t470 then (impl_lotsRight.l2 k x41 x42 x43 x48 x49 (wrap64 (x50 + 1)) x457000 x457001 x457002 x457003 x457004 x457005 x463000 x463001) else (some false)))))
end
def impl_lotsRight.f (k : Nat) (l0_0 : List (S80)) (l0_1 : List (S84)) (l0_2 : List (S106)) (l0_3 : List (S110)) (l0_4 : List (S60)) (a0_5 : Int) : Option (Bool) := impl_lotsRight.l0 k l0_3 (l0_3.length : Int) 0 l0_0 l0_1 l0_2 l0_3 l0_4 a0_5
def impl_tradesRight.ak (l : List (S80)) (a : Int) : Int := match l with
  | [] => 0
  | x :: xs => if x.f0 = a then x.f1 else impl_tradesRight.ak xs a
def impl_tradesRight.ik (l : List (S84)) (a : Int) : Int := match l with
  | [] => 0
  | x :: xs => if x.f0 = a then x.f1 else impl_tradesRight.ik xs a
def impl_tradesRight.bad (l0 : List (S80)) (l1 : List (S84)) (x : S60) : Bool := (impl_tradesRight.ak l0 x.f1 != 1) || (impl_tradesRight.ak l0 x.f2 != 1) || (impl_tradesRight.ik l1 x.f3 != 2) || (impl_tradesRight.ik l1 x.f5 != 1)
def impl_tradesRight.f (l0_0 : List (S80)) (l0_1 : List (S84)) (_l0_2 : List (S106)) (_l0_3 : List (S110)) (l0_4 : List (S60)) (_a0_5 : Int) : Option Bool := if l0_0.length < 1048577 ∧ l0_1.length < 1048577 then some (!(l0_4.any (impl_tradesRight.bad l0_0 l0_1))) else none
def impl_BooksOk.j0 : Nat → Bool → List (S80) → List (S84) → List (S106) → List (S110) → List (S60) → Int → Option (Bool)
  | 0, _, _, _, _, _, _, _ => none
  | k + 1, x36, x472000, x472001, x472002, x472003, x472004, x472005 => if x36 = true then (some false) else ((impl_balsRight.f k x472000 x472001 x472002 x472003 x472004 x472005).bind fun t478 => (if t478 = true then ((impl_lotsRight.f k x472000 x472001 x472002 x472003 x472004 x472005).bind fun t479 => (if t479 = true then ((impl_tradesRight.f x472000 x472001 x472002 x472003 x472004 x472005).bind fun t480 => (some t480)) else (some false))) else (some false)))
def impl_BooksOk.f (k : Nat) (l0_0 : List (S80)) (l0_1 : List (S84)) (l0_2 : List (S106)) (l0_3 : List (S110)) (l0_4 : List (S60)) (a0_5 : Int) : Option (Bool) := (impl_AccountsOk.f k l0_0).bind fun t472 => (if t472 = true then ((impl_InstrsOk.f k l0_1).bind fun t473 => (if t473 = true then ((impl_BalsOk.f k l0_2).bind fun t474 => (if t474 = true then ((impl_LotsOk.f l0_3).bind fun t475 => (if t475 = true then ((impl_TradesOk.f k l0_4).bind fun t476 => (if t476 = true then ((impl_in.f a0_5 0 1000000000).bind fun t477 => (impl_BooksOk.j0 k (!t477) l0_0 l0_1 l0_2 l0_3 l0_4 a0_5)) else (impl_BooksOk.j0 k true l0_0 l0_1 l0_2 l0_3 l0_4 a0_5))) else (impl_BooksOk.j0 k true l0_0 l0_1 l0_2 l0_3 l0_4 a0_5))) else (impl_BooksOk.j0 k true l0_0 l0_1 l0_2 l0_3 l0_4 a0_5))) else (impl_BooksOk.j0 k true l0_0 l0_1 l0_2 l0_3 l0_4 a0_5))) else (impl_BooksOk.j0 k true l0_0 l0_1 l0_2 l0_3 l0_4 a0_5))
def impl_Account_97.f (l0 : List (S80)) : Option ((List (S80))) := (some (([] : List (S80)) : List (S80))).bind fun y481 => (if y481.length + l0.length < 8796093022208 then (some (y481 ++ l0)) else (none))
def impl_Instr_98.f (l0 : List (S84)) : Option ((List (S84))) := (some (([] : List (S84)) : List (S84))).bind fun y487 => (if y487.length + l0.length < 8796093022208 then (some (y487 ++ l0)) else (none))
def impl_Bal_99.f (l0 : List (S106)) : Option ((List (S106))) := (some (([] : List (S106)) : List (S106))).bind fun y493 => (if y493.length + l0.length < 5864062014805 then (some (y493 ++ l0)) else (none))
def impl_Trade.f (l0 : List (S60)) : Option ((List (S60))) := (some (([] : List (S60)) : List (S60))).bind fun y499 => (if y499.length + l0.length < 2199023255552 then (some (y499 ++ l0)) else (none))
def impl_cloneBooks.f (l0_0 : List (S80)) (l0_1 : List (S84)) (l0_2 : List (S106)) (l0_3 : List (S110)) (l0_4 : List (S60)) (a0_5 : Int) : Option ((List (S80)) × (List (S84)) × (List (S106)) × (List (S110)) × (List (S60)) × Int) := (impl_Account_97.f l0_0).bind fun t507 => ((impl_Instr_98.f l0_1).bind fun t510 => ((impl_Bal_99.f l0_2).bind fun t513 => ((impl_Lot_100.f l0_3).bind fun t516 => ((impl_Trade.f l0_4).bind fun t519 => (some (t507, t510, t513, t516, t519, a0_5))))))
def laws_eqAccount.f (a0_0 : Int) (a0_1 : Int) (a1_0 : Int) (a1_1 : Int) : Option (Bool) := if a0_0 = a1_0 then (if a0_1 = a1_1 then (some true) else (some false)) else (some false)
def laws_eqAccountS.l0 : Nat → List (S80) → List (S80) → Int → Option (Bool)
  | 0, _, _, _ => none
  | k + 1, x0, x1, x5 => if x5 < (x0.length : Int) then (if 0 ≤ x5 then (if x5 < (x1.length : Int) then ((laws_eqAccount.f ((rd_T80 x0 x5).f0) ((rd_T80 x0 x5).f1) ((rd_T80 x1 x5).f0) ((rd_T80 x1 x5).f1)).bind fun t553 => (if t553 = true then (laws_eqAccountS.l0 k x0 x1 (wrap64 (x5 + 1))) else (some false))) else (none)) else (none)) else (some true)
def laws_eqAccountS.f (k : Nat) (l0 : List (S80)) (l1 : List (S80)) : Option (Bool) := if (l0.length : Int) = (l1.length : Int) then (laws_eqAccountS.l0 k l0 l1 0) else (some false)
def laws_eqInstr.f (a0_0 : Int) (a0_1 : Int) (a1_0 : Int) (a1_1 : Int) : Option (Bool) := if a0_0 = a1_0 then (if a0_1 = a1_1 then (some true) else (some false)) else (some false)
def laws_eqInstrS.l0 : Nat → List (S84) → List (S84) → Int → Option (Bool)
  | 0, _, _, _ => none
  | k + 1, x0, x1, x5 => if x5 < (x0.length : Int) then (if 0 ≤ x5 then (if x5 < (x1.length : Int) then ((laws_eqInstr.f ((rd_T84 x0 x5).f0) ((rd_T84 x0 x5).f1) ((rd_T84 x1 x5).f0) ((rd_T84 x1 x5).f1)).bind fun t558 => (if t558 = true then (laws_eqInstrS.l0 k x0 x1 (wrap64 (x5 + 1))) else (some false))) else (none)) else (none)) else (some true)
def laws_eqInstrS.f (k : Nat) (l0 : List (S84)) (l1 : List (S84)) : Option (Bool) := if (l0.length : Int) = (l1.length : Int) then (laws_eqInstrS.l0 k l0 l1 0) else (some false)
def laws_eqBal.f (a0_0 : Int) (a0_1 : Int) (a0_2 : Int) (a1_0 : Int) (a1_1 : Int) (a1_2 : Int) : Option (Bool) := if a0_0 = a1_0 then (if a0_1 = a1_1 then (if a0_2 = a1_2 then (some true) else (some false)) else (some false)) else (some false)
def laws_eqBalS.l0 : Nat → List (S106) → List (S106) → Int → Option (Bool)
  | 0, _, _, _ => none
  | k + 1, x0, x1, x5 => if x5 < (x0.length : Int) then (if 0 ≤ x5 then (if x5 < (x1.length : Int) then ((laws_eqBal.f ((rd_T106 x0 x5).f0) ((rd_T106 x0 x5).f1) ((rd_T106 x0 x5).f2) ((rd_T106 x1 x5).f0) ((rd_T106 x1 x5).f1) ((rd_T106 x1 x5).f2)).bind fun t563 => (if t563 = true then (laws_eqBalS.l0 k x0 x1 (wrap64 (x5 + 1))) else (some false))) else (none)) else (none)) else (some true)
def laws_eqBalS.f (k : Nat) (l0 : List (S106)) (l1 : List (S106)) : Option (Bool) := if (l0.length : Int) = (l1.length : Int) then (laws_eqBalS.l0 k l0 l1 0) else (some false)
def laws_eqLot.f (a0_0 : Int) (a0_1 : Int) (a0_2 : Int) (a0_3 : Int) (a0_4 : Int) (a1_0 : Int) (a1_1 : Int) (a1_2 : Int) (a1_3 : Int) (a1_4 : Int) : Option (Bool) := if a0_0 = a1_0 then (if a0_1 = a1_1 then (if a0_2 = a1_2 then (if a0_3 = a1_3 then (if a0_4 = a1_4 then (some true) else (some false)) else (some false)) else (some false)) else (some false)) else (some false)
def laws_eqLotS.l0 : Nat → List (S110) → List (S110) → Int → Option (Bool)
  | 0, _, _, _ => none
  | k + 1, x0, x1, x5 => if x5 < (x0.length : Int) then (if 0 ≤ x5 then (if x5 < (x1.length : Int) then ((laws_eqLot.f ((rd_T110 x0 x5).f0) ((rd_T110 x0 x5).f1) ((rd_T110 x0 x5).f2) ((rd_T110 x0 x5).f3) ((rd_T110 x0 x5).f4) ((rd_T110 x1 x5).f0) ((rd_T110 x1 x5).f1) ((rd_T110 x1 x5).f2) ((rd_T110 x1 x5).f3) ((rd_T110 x1 x5).f4)).bind fun t568 => (if t568 = true then (laws_eqLotS.l0 k x0 x1 (wrap64 (x5 + 1))) else (some false))) else (none)) else (none)) else (some true)
def laws_eqLotS.f (k : Nat) (l0 : List (S110)) (l1 : List (S110)) : Option (Bool) := if (l0.length : Int) = (l1.length : Int) then (laws_eqLotS.l0 k l0 l1 0) else (some false)
def laws_eqTrade.f (a0_0 : Int) (a0_1 : Int) (a0_2 : Int) (a0_3 : Int) (a0_4 : Int) (a0_5 : Int) (a0_6 : Int) (a0_7 : Int) (a1_0 : Int) (a1_1 : Int) (a1_2 : Int) (a1_3 : Int) (a1_4 : Int) (a1_5 : Int) (a1_6 : Int) (a1_7 : Int) : Option (Bool) := if a0_0 = a1_0 then (if a0_1 = a1_1 then (if a0_2 = a1_2 then (if a0_3 = a1_3 then (if a0_4 = a1_4 then (if a0_5 = a1_5 then (if a0_6 = a1_6 then (if a0_7 = a1_7 then (some true) else (some false)) else (some false)) else (some false)) else (some false)) else (some false)) else (some false)) else (some false)) else (some false)
def laws_eqTradeS.l0 : Nat → List (S60) → List (S60) → Int → Option (Bool)
  | 0, _, _, _ => none
  | k + 1, x0, x1, x5 => if x5 < (x0.length : Int) then (if 0 ≤ x5 then (if x5 < (x1.length : Int) then ((laws_eqTrade.f ((rd_T60 x0 x5).f0) ((rd_T60 x0 x5).f1) ((rd_T60 x0 x5).f2) ((rd_T60 x0 x5).f3) ((rd_T60 x0 x5).f4) ((rd_T60 x0 x5).f5) ((rd_T60 x0 x5).f6) ((rd_T60 x0 x5).f7) ((rd_T60 x1 x5).f0) ((rd_T60 x1 x5).f1) ((rd_T60 x1 x5).f2) ((rd_T60 x1 x5).f3) ((rd_T60 x1 x5).f4) ((rd_T60 x1 x5).f5) ((rd_T60 x1 x5).f6) ((rd_T60 x1 x5).f7)).bind fun t573 => (if t573 = true then (laws_eqTradeS.l0 k x0 x1 (wrap64 (x5 + 1))) else (some false))) else (none)) else (none)) else (some true)
def laws_eqTradeS.f (k : Nat) (l0 : List (S60)) (l1 : List (S60)) : Option (Bool) := if (l0.length : Int) = (l1.length : Int) then (laws_eqTradeS.l0 k l0 l1 0) else (some false)
def laws_eqBooks.f (k : Nat) (l0_0 : List (S80)) (l0_1 : List (S84)) (l0_2 : List (S106)) (l0_3 : List (S110)) (l0_4 : List (S60)) (a0_5 : Int) (l1_0 : List (S80)) (l1_1 : List (S84)) (l1_2 : List (S106)) (l1_3 : List (S110)) (l1_4 : List (S60)) (a1_5 : Int) : Option (Bool) := (laws_eqAccountS.f k l0_0 l1_0).bind fun t576 => (if t576 = true then ((laws_eqInstrS.f k l0_1 l1_1).bind fun t577 => (if t577 = true then ((laws_eqBalS.f k l0_2 l1_2).bind fun t578 => (if t578 = true then ((laws_eqLotS.f k l0_3 l1_3).bind fun t579 => (if t579 = true then ((laws_eqTradeS.f k l0_4 l1_4).bind fun t580 => (if t580 = true then (if a0_5 = a1_5 then (some true) else (some false)) else (some false))) else (some false))) else (some false))) else (some false))) else (some false))
def laws_markAccountS.l0 : Nat → List (S80) → Int → Int → Option (Int × (List (S80)))
  | 0, _, _, _ => none
  | k + 1, x0, x1, x5 => if x5 < (x0.length : Int) then (if 0 ≤ x5 then ((some (x0.set (x5 : Int).toNat (⟨x1, (rd_T80 x0 x5).f1⟩ : S80) : List (S80))).bind fun y581 => (laws_markAccountS.l0 k (y581.set (x5 : Int).toNat (⟨(rd_T80 y581 x5).f0, wrap64 (x1 + 1)⟩ : S80)) (wrap64 ((wrap64 (x1 + 1)) + 1)) (wrap64 (x5 + 1)))) else (none)) else (some (x1, x0))
def laws_markAccountS.f (k : Nat) (l0 : List (S80)) (a1 : Int) : Option (Int × (List (S80))) := laws_markAccountS.l0 k l0 a1 0
def laws_markInstrS.l0 : Nat → List (S84) → Int → Int → Option (Int × (List (S84)))
  | 0, _, _, _ => none
  | k + 1, x0, x1, x5 => if x5 < (x0.length : Int) then (if 0 ≤ x5 then ((some (x0.set (x5 : Int).toNat (⟨x1, (rd_T84 x0 x5).f1⟩ : S84) : List (S84))).bind fun y583 => (laws_markInstrS.l0 k (y583.set (x5 : Int).toNat (⟨(rd_T84 y583 x5).f0, wrap64 (x1 + 1)⟩ : S84)) (wrap64 ((wrap64 (x1 + 1)) + 1)) (wrap64 (x5 + 1)))) else (none)) else (some (x1, x0))
def laws_markInstrS.f (k : Nat) (l0 : List (S84)) (a1 : Int) : Option (Int × (List (S84))) := laws_markInstrS.l0 k l0 a1 0
def laws_markBalS.l0 : Nat → List (S106) → Int → Int → Option (Int × (List (S106)))
  | 0, _, _, _ => none
  | k + 1, x0, x1, x5 => if x5 < (x0.length : Int) then (if 0 ≤ x5 then ((some (x0.set (x5 : Int).toNat (⟨x1, (rd_T106 x0 x5).f1, (rd_T106 x0 x5).f2⟩ : S106) : List (S106))).bind fun y585 => ((some (y585.set (x5 : Int).toNat (⟨(rd_T106 y585 x5).f0, wrap64 (x1 + 1), (rd_T106 y585 x5).f2⟩ : S106) : List (S106))).bind fun y586 => (laws_markBalS.l0 k (y586.set (x5 : Int).toNat (⟨(rd_T106 y586 x5).f0, (rd_T106 y586 x5).f1, wrap64 ((wrap64 (x1 + 1)) + 1)⟩ : S106)) (wrap64 ((wrap64 ((wrap64 (x1 + 1)) + 1)) + 1)) (wrap64 (x5 + 1))))) else (none)) else (some (x1, x0))
def laws_markBalS.f (k : Nat) (l0 : List (S106)) (a1 : Int) : Option (Int × (List (S106))) := laws_markBalS.l0 k l0 a1 0
def laws_markLotS.l0 : Nat → List (S110) → Int → Int → Option (Int × (List (S110)))
  | 0, _, _, _ => none
  | k + 1, x0, x1, x5 => if x5 < (x0.length : Int) then (if 0 ≤ x5 then ((some (x0.set (x5 : Int).toNat (⟨x1, (rd_T110 x0 x5).f1, (rd_T110 x0 x5).f2, (rd_T110 x0 x5).f3, (rd_T110 x0 x5).f4⟩ : S110) : List (S110))).bind fun y588 => ((some (y588.set (x5 : Int).toNat (⟨(rd_T110 y588 x5).f0, wrap64 (x1 + 1), (rd_T110 y588 x5).f2, (rd_T110 y588 x5).f3, (rd_T110 y588 x5).f4⟩ : S110) : List (S110))).bind fun y589 => ((some (y589.set (x5 : Int).toNat (⟨(rd_T110 y589 x5).f0, (rd_T110 y589 x5).f1, wrap64 ((wrap64 (x1 + 1)) + 1), (rd_T110 y589 x5).f3, (rd_T110 y589 x5).f4⟩ : S110) : List (S110))).bind fun y590 => ((some (y590.set (x5 : Int).toNat (⟨(rd_T110 y590 x5).f0, (rd_T110 y590 x5).f1, (rd_T110 y590 x5).f2, wrap64 ((wrap64 ((wrap64 (x1 + 1)) + 1)) + 1), (rd_T110 y590 x5).f4⟩ : S110) : List (S110))).bind fun y591 => (laws_markLotS.l0 k (y591.set (x5 : Int).toNat (⟨(rd_T110 y591 x5).f0, (rd_T110 y591 x5).f1, (rd_T110 y591 x5).f2, (rd_T110 y591 x5).f3, wrap64 ((wrap64 ((wrap64 ((wrap64 (x1 + 1)) + 1)) + 1)) + 1)⟩ : S110)) (wrap64 ((wrap64 ((wrap64 ((wrap64 ((wrap64 (x1 + 1)) + 1)) + 1)) + 1)) + 1)) (wrap64 (x5 + 1))))))) else (none)) else (some (x1, x0))
def laws_markLotS.f (k : Nat) (l0 : List (S110)) (a1 : Int) : Option (Int × (List (S110))) := laws_markLotS.l0 k l0 a1 0
def laws_markTradeS.l0 : Nat → List (S60) → Int → Int → Option (Int × (List (S60)))
  | 0, _, _, _ => none
  | k + 1, x0, x1, x5 => if x5 < (x0.length : Int) then (if 0 ≤ x5 then ((some (x0.set (x5 : Int).toNat (⟨x1, (rd_T60 x0 x5).f1, (rd_T60 x0 x5).f2, (rd_T60 x0 x5).f3, (rd_T60 x0 x5).f4, (rd_T60 x0 x5).f5, (rd_T60 x0 x5).f6, (rd_T60 x0 x5).f7⟩ : S60) : List (S60))).bind fun y593 => ((some (y593.set (x5 : Int).toNat (⟨(rd_T60 y593 x5).f0, wrap64 (x1 + 1), (rd_T60 y593 x5).f2, (rd_T60 y593 x5).f3, (rd_T60 y593 x5).f4, (rd_T60 y593 x5).f5, (rd_T60 y593 x5).f6, (rd_T60 y593 x5).f7⟩ : S60) : List (S60))).bind fun y594 => ((some (y594.set (x5 : Int).toNat (⟨(rd_T60 y594 x5).f0, (rd_T60 y594 x5).f1, wrap64 ((wrap64 (x1 + 1)) + 1), (rd_T60 y594 x5).f3, (rd_T60 y594 x5).f4, (rd_T60 y594 x5).f5, (rd_T60 y594 x5).f6, (rd_T60 y594 x5).f7⟩ : S60) : List (S60))).bind fun y595 => ((some (y595.set (x5 : Int).toNat (⟨(rd_T60 y595 x5).f0, (rd_T60 y595 x5).f1, (rd_T60 y595 x5).f2, wrap64 ((wrap64 ((wrap64 (x1 + 1)) + 1)) + 1), (rd_T60 y595 x5).f4, (rd_T60 y595 x5).f5, (rd_T60 y595 x5).f6, (rd_T60 y595 x5).f7⟩ : S60) : List (S60))).bind fun y596 => ((some (y596.set (x5 : Int).toNat (⟨(rd_T60 y596 x5).f0, (rd_T60 y596 x5).f1, (rd_T60 y596 x5).f2, (rd_T60 y596 x5).f3, wrap64 ((wrap64 ((wrap64 ((wrap64 (x1 + 1)) + 1)) + 1)) + 1), (rd_T60 y596 x5).f5, (rd_T60 y596 x5).f6, (rd_T60 y596 x5).f7⟩ : S60) : List (S60))).bind fun y597 => ((some (y597.set (x5 : Int).toNat (⟨(rd_T60 y597 x5).f0, (rd_T60 y597 x5).f1, (rd_T60 y597 x5).f2, (rd_T60 y597 x5).f3, (rd_T60 y597 x5).f4, wrap64 ((wrap64 ((wrap64 ((wrap64 ((wrap64 (x1 + 1)) + 1)) + 1)) + 1)) + 1), (rd_T60 y597 x5).f6, (rd_T60 y597 x5).f7⟩ : S60) : List (S60))).bind fun y598 => ((some (y598.set (x5 : Int).toNat (⟨(rd_T60 y598 x5).f0, (rd_T60 y598 x5).f1, (rd_T60 y598 x5).f2, (rd_T60 y598 x5).f3, (rd_T60 y598 x5).f4, (rd_T60 y598 x5).f5, wrap64 ((wrap64 ((wrap64 ((wrap64 ((wrap64 ((wrap64 (x1 + 1)) + 1)) + 1)) + 1)) + 1)) + 1), (rd_T60 y598 x5).f7⟩ : S60) : List (S60))).bind fun y599 => (laws_markTradeS.l0 k (y599.set (x5 : Int).toNat (⟨(rd_T60 y599 x5).f0, (rd_T60 y599 x5).f1, (rd_T60 y599 x5).f2, (rd_T60 y599 x5).f3, (rd_T60 y599 x5).f4, (rd_T60 y599 x5).f5, (rd_T60 y599 x5).f6, wrap64 ((wrap64 ((wrap64 ((wrap64 ((wrap64 ((wrap64 ((wrap64 (x1 + 1)) + 1)) + 1)) + 1)) + 1)) + 1)) + 1)⟩ : S60)) (wrap64 ((wrap64 ((wrap64 ((wrap64 ((wrap64 ((wrap64 ((wrap64 ((wrap64 (x1 + 1)) + 1)) + 1)) + 1)) + 1)) + 1)) + 1)) + 1)) (wrap64 (x5 + 1)))))))))) else (none)) else (some (x1, x0))
def laws_markTradeS.f (k : Nat) (l0 : List (S60)) (a1 : Int) : Option (Int × (List (S60))) := laws_markTradeS.l0 k l0 a1 0
def laws_markBooks.f (k : Nat) (l0_0 : List (S80)) (l0_1 : List (S84)) (l0_2 : List (S106)) (l0_3 : List (S110)) (l0_4 : List (S60)) (a0_5 : Int) (a1 : Int) : Option (Int × (List (S80)) × (List (S84)) × (List (S106)) × (List (S110)) × (List (S60))) := (laws_markAccountS.f k l0_0 a1).bind fun bt602 => ((laws_markInstrS.f k l0_1 bt602.1).bind fun bt604 => ((laws_markBalS.f k l0_2 bt604.1).bind fun bt606 => ((laws_markLotS.f k l0_3 bt606.1).bind fun bt608 => ((laws_markTradeS.f k l0_4 bt608.1).bind fun bt610 => (some (bt610.1, bt602.2, bt604.2, bt606.2, bt608.2, bt610.2))))))
def laws_heldAccountS.l0 : Nat → List (S80) → Int → Int → Option (Int)
  | 0, _, _, _ => none
  | k + 1, x0, x1, x5 => if x5 < (x0.length : Int) then (if 0 ≤ x5 then (if ((rd_T80 x0 x5).f0) = x1 then (if ((rd_T80 x0 x5).f1) = (wrap64 (x1 + 1)) then (laws_heldAccountS.l0 k x0 (wrap64 ((wrap64 (x1 + 1)) + 1)) (wrap64 (x5 + 1))) else (some (-1))) else (some (-1))) else (none)) else (some x1)
def laws_heldAccountS.f (k : Nat) (l0 : List (S80)) (a1 : Int) : Option (Int) := laws_heldAccountS.l0 k l0 a1 0
def laws_heldInstrS.l0 : Nat → List (S84) → Int → Int → Option (Int)
  | 0, _, _, _ => none
  | k + 1, x0, x1, x5 => if x5 < (x0.length : Int) then (if 0 ≤ x5 then (if ((rd_T84 x0 x5).f0) = x1 then (if ((rd_T84 x0 x5).f1) = (wrap64 (x1 + 1)) then (laws_heldInstrS.l0 k x0 (wrap64 ((wrap64 (x1 + 1)) + 1)) (wrap64 (x5 + 1))) else (some (-1))) else (some (-1))) else (none)) else (some x1)
def laws_heldInstrS.f (k : Nat) (l0 : List (S84)) (a1 : Int) : Option (Int) := laws_heldInstrS.l0 k l0 a1 0
def laws_heldBalS.l0 : Nat → List (S106) → Int → Int → Option (Int)
  | 0, _, _, _ => none
  | k + 1, x0, x1, x5 => if x5 < (x0.length : Int) then (if 0 ≤ x5 then (if ((rd_T106 x0 x5).f0) = x1 then (if ((rd_T106 x0 x5).f1) = (wrap64 (x1 + 1)) then (if ((rd_T106 x0 x5).f2) = (wrap64 ((wrap64 (x1 + 1)) + 1)) then (laws_heldBalS.l0 k x0 (wrap64 ((wrap64 ((wrap64 (x1 + 1)) + 1)) + 1)) (wrap64 (x5 + 1))) else (some (-1))) else (some (-1))) else (some (-1))) else (none)) else (some x1)
def laws_heldBalS.f (k : Nat) (l0 : List (S106)) (a1 : Int) : Option (Int) := laws_heldBalS.l0 k l0 a1 0
def laws_heldLotS.l0 : Nat → List (S110) → Int → Int → Option (Int)
  | 0, _, _, _ => none
  | k + 1, x0, x1, x5 => if x5 < (x0.length : Int) then (if 0 ≤ x5 then (if ((rd_T110 x0 x5).f0) = x1 then (if ((rd_T110 x0 x5).f1) = (wrap64 (x1 + 1)) then (if ((rd_T110 x0 x5).f2) = (wrap64 ((wrap64 (x1 + 1)) + 1)) then (if ((rd_T110 x0 x5).f3) = (wrap64 ((wrap64 ((wrap64 (x1 + 1)) + 1)) + 1)) then (if ((rd_T110 x0 x5).f4) = (wrap64 ((wrap64 ((wrap64 ((wrap64 (x1 + 1)) + 1)) + 1)) + 1)) then (laws_heldLotS.l0 k x0 (wrap64 ((wrap64 ((wrap64 ((wrap64 ((wrap64 (x1 + 1)) + 1)) + 1)) + 1)) + 1)) (wrap64 (x5 + 1))) else (some (-1))) else (some (-1))) else (some (-1))) else (some (-1))) else (some (-1))) else (none)) else (some x1)
def laws_heldLotS.f (k : Nat) (l0 : List (S110)) (a1 : Int) : Option (Int) := laws_heldLotS.l0 k l0 a1 0
def laws_heldTradeS.l0 : Nat → List (S60) → Int → Int → Option (Int)
  | 0, _, _, _ => none
  | k + 1, x0, x1, x5 => if x5 < (x0.length : Int) then (if 0 ≤ x5 then (if ((rd_T60 x0 x5).f0) = x1 then (if ((rd_T60 x0 x5).f1) = (wrap64 (x1 + 1)) then (if ((rd_T60 x0 x5).f2) = (wrap64 ((wrap64 (x1 + 1)) + 1)) then (if ((rd_T60 x0 x5).f3) = (wrap64 ((wrap64 ((wrap64 (x1 + 1)) + 1)) + 1)) then (if ((rd_T60 x0 x5).f4) = (wrap64 ((wrap64 ((wrap64 ((wrap64 (x1 + 1)) + 1)) + 1)) + 1)) then (if ((rd_T60 x0 x5).f5) = (wrap64 ((wrap64 ((wrap64 ((wrap64 ((wrap64 (x1 + 1)) + 1)) + 1)) + 1)) + 1)) then (if ((rd_T60 x0 x5).f6) = (wrap64 ((wrap64 ((wrap64 ((wrap64 ((wrap64 ((wrap64 (x1 + 1)) + 1)) + 1)) + 1)) + 1)) + 1)) then (if ((rd_T60 x0 x5).f7) = (wrap64 ((wrap64 ((wrap64 ((wrap64 ((wrap64 ((wrap64 ((wrap64 (x1 + 1)) + 1)) + 1)) + 1)) + 1)) + 1)) + 1)) then (laws_heldTradeS.l0 k x0 (wrap64 ((wrap64 ((wrap64 ((wrap64 ((wrap64 ((wrap64 ((wrap64 ((wrap64 (x1 + 1)) + 1)) + 1)) + 1)) + 1)) + 1)) + 1)) + 1)) (wrap64 (x5 + 1))) else (some (-1))) else (some (-1))) else (some (-1))) else (some (-1))) else (some (-1))) else (some (-1))) else (some (-1))) else (some (-1))) else (none)) else (some x1)
def laws_heldTradeS.f (k : Nat) (l0 : List (S60)) (a1 : Int) : Option (Int) := laws_heldTradeS.l0 k l0 a1 0
end Go.Proofs.YtmfgajbkcnlkcaaGreat.P
namespace Go.Proofs.YtmfgajbkcnlkcaaGreat.P
open Go.RowKit Go.Proofs.YtmfgajbkcnlkcaaGreatW.PrintWords Go.Proofs.YtmfgajbkcnlkcaaGreatW.PrintLast Go.Proofs.YtmfgajbkcnlkcaaGreatW.PrintMore
attribute [local go_sem] max2_int min2_int max_two min_two max_three min_three max_four min_four   -- for this text's walks alone
set_option linter.unusedVariables false
set_option linter.unusedSimpArgs false
def laws_heldBooks.f (k : Nat) (l0_0 : List (S80)) (l0_1 : List (S84)) (l0_2 : List (S106)) (l0_3 : List (S110)) (l0_4 : List (S60)) (a0_5 : Int) (a1 : Int) : Option (Int) := (laws_heldAccountS.f k l0_0 a1).bind fun t633 => (if t633 < 0 then (some (-1)) else ((laws_heldInstrS.f k l0_1 t633).bind fun t634 => (if t634 < 0 then (some (-1)) else ((laws_heldBalS.f k l0_2 t634).bind fun t635 => (if t635 < 0 then (some (-1)) else ((laws_heldLotS.f k l0_3 t635).bind fun t636 => (if t636 < 0 then (some (-1)) else ((laws_heldTradeS.f k l0_4 t636).bind fun t637 => (if t637 < 0 then (some (-1)) else (some t637))))))))))
def spec_l4LegsRight.l0 : Nat → List (S93) → Int → Option (Bool)
  | 0, _, _ => none
  | k + 1, x0, x3 => if x3 < (x0.length : Int) then (if 0 ≤ x3 then ((spec_l3No.f ((rd_T93 x0 x3).f0)).bind fun t1098 => (if t1098 = true then ((spec_l3No.f ((rd_T93 x0 x3).f1)).bind fun t1100 => (if t1100 = true then ((spec_AmountOk.f ((rd_T93 x0 x3).f2)).bind fun t1102 => (if t1102 = true then (spec_l4LegsRight.l0 k x0 (wrap64 (x3 + 1))) else (some false))) else (some false))) else (some false))) else (none)) else (some true)
def spec_l4LegsRight.f (k : Nat) (l0 : List (S93)) : Option (Bool) := if (l0.length : Int) > 160 then (some false) else (spec_l4LegsRight.l0 k l0 0)
mutual
def spec_LegsOk.l0 : Nat → List (S93) → Int → Option (Bool)
  | 0, _, _ => none
  | k + 1, x0, x3 => if x3 < (x0.length : Int) then (spec_LegsOk.l1 k x0 x3 0 0) else (some true)
def spec_LegsOk.l1 : Nat → List (S93) → Int → Int → Int → Option (Bool)
  | 0, _, _, _, _ => none
  | k + 1, x0, x3, x4, x5 => if x5 < (x0.length : Int) then (if 0 ≤ x5 then (if 0 ≤ x3 then (if x3 < (x0.length : Int) then (if ((rd_T93 x0 x5).f1) = ((rd_T93 x0 x3).f1) then (spec_LegsOk.l1 k x0 x3 (wrap64 (x4 + ((rd_T93 x0 x5).f2))) (wrap64 (x5 + 1))) else (spec_LegsOk.l1 k x0 x3 x4 (wrap64 (x5 + 1)))) else (none)) else (none)) else (none)) else (if x4 = 0 then (spec_LegsOk.l0 k x0 (wrap64 (x3 + 1))) else (some false))
end
def spec_LegsOk.f (k : Nat) (l0 : List (S93)) : Option (Bool) := (spec_l4LegsRight.f k l0).bind fun t1103 => (if t1103 = true then (spec_LegsOk.l0 k l0 0) else (some false))
def spec_AddIn.f (a0 : Int) (a1 : Int) : Option (Int × Bool) := (spec_AmountOk.f a0).bind fun t1107 => (if t1107 = true then ((spec_AmountOk.f a1).bind fun t1108 => ((spec_l1Told.f (wrap64 (a0 + a1)) t1108).bind fun bt1109 => (some (bt1109.1, bt1109.2)))) else ((spec_l1Told.f (wrap64 (a0 + a1)) false).bind fun bt1111 => (some (bt1111.1, bt1111.2))))
mutual
def spec_l4Put.l0 : Nat → List (S106) → Int → Int → List (S106) → Bool → Int → Int → Int → Int → Option ((List (S106)))
  | 0, _, _, _, _, _, _, _, _, _ => none
  | k + 1, x0, x1, x2, x9, x10, x12, x1117000, x1117001, x1117002 => if x12 < (x0.length : Int) then (if 0 ≤ x12 then (if x10 = true then (spec_l4Put.j1 k x0 x1 x2 x9 x10 x12 false x1117000 x1117001 x1117002 ((rd_T106 x0 x12).f0) ((rd_T106 x0 x12).f1) ((rd_T106 x0 x12).f2)) else ((spec_l4Before.f ((rd_T106 x0 x12).f0) ((rd_T106 x0 x12).f1) x1 x2).bind fun t1122 => (spec_l4Put.j1 k x0 x1 x2 x9 x10 x12 (!t1122) x1117000 x1117001 x1117002 ((rd_T106 x0 x12).f0) ((rd_T106 x0 x12).f1) ((rd_T106 x0 x12).f2)))) else (none)) else (if x10 = true then (some x9) else (if x9.length < 5864062014805 then (some (x9 ++ [(⟨x1117000, x1117001, x1117002⟩ : S106)])) else (none)))
def spec_l4Put.j1 : Nat → List (S106) → Int → Int → List (S106) → Bool → Int → Bool → Int → Int → Int → Int → Int → Int → Option ((List (S106)))
  | 0, _, _, _, _, _, _, _, _, _, _, _, _, _ => none
  | k + 1, x0, x1, x2, x9, x10, x12, x42, x1117000, x1117001, x1117002, x1122000, x1122001, x1122002 => if x42 = true then (if x9.length < 5864062014805 then ((some (x9 ++ [(⟨x1117000, x1117001, x1117002⟩ : S106)] : List (S106))).bind fun y1123 => (if x1122000 = x1 then (if x1122001 = x2 then (spec_l4Put.l0 k x0 x1 x2 y1123 true (wrap64 (x12 + 1)) x1117000 x1117001 x1117002) else (if y1123.length < 5864062014805 then (spec_l4Put.l0 k x0 x1 x2 (y1123 ++ [(⟨x1122000, x1122001, x1122002⟩ : S106)]) true (wrap64 (x12 + 1)) x1117000 x1117001 x1117002) else (none))) else (if y1123.length < 5864062014805 then (spec_l4Put.l0 k x0 x1 x2 (y1123 ++ [(⟨x1122000, x1122001, x1122002⟩ : S106)]) true (wrap64 (x12 + 1)) x1117000 x1117001 x1117002) else (none)))) else (none)) else (if x1122000 = x1 then (if x1122001 = x2 then (spec_l4Put.l0 k x0 x1 x2 x9 x10 (wrap64 (x12 + 1)) x1117000 x1117001 x1117002) else (if x9.length < 5864062014805 then (spec_l4Put.l0 k x0 x1 x2 (x9 ++ [(⟨x1122000, x1122001, x1122002⟩ : S106)]) x10 (wrap64 (x12 + 1)) x1117000 x1117001 x1117002) else (none))) else (if x9.length < 5864062014805 then (spec_l4Put.l0 k x0 x1 x2 (x9 ++ [(⟨x1122000, x1122001, x1122002⟩ : S106)]) x10 (wrap64 (x12 + 1)) x1117000 x1117001 x1117002) else (none)))
end
def spec_l4Put.f (k : Nat) (l0 : List (S106)) (a1 : Int) (a2 : Int) (a3 : Int) : Option ((List (S106))) := spec_l4Put.l0 k l0 a1 a2 (([] : List (S106))) (a3 == 0) 0 a1 a2 a3
def spec_l4Has.l0 : Nat → List Int → Int → Int → Option (Bool)
  | 0, _, _, _ => none
  | k + 1, x0, x1, x5 => if x5 < (x0.length : Int) then (if 0 ≤ x5 then (if (rd x0 x5) = x1 then (some true) else (spec_l4Has.l0 k x0 x1 (wrap64 (x5 + 1)))) else (none)) else (some false)
def spec_l4Has.f (k : Nat) (l0 : List Int) (a1 : Int) : Option (Bool) := spec_l4Has.l0 k l0 a1 0
mutual
def spec_BalsPost.j0 : Nat → List (S106) → List (S93) → List Int → Bool → Option ((List (S106)) × Int)
  | 0, _, _, _, _ => none
  | k + 1, x0, x1, x2, x26 => if x26 = true then (some ((([] : List (S106))), 1)) else ((some (([] : List (S106)) : List (S106))).bind fun y1144 => (if y1144.length + x0.length < 5864062014805 then ((some (y1144 ++ x0 : List (S106))).bind fun y1147 => ((spec_LegsOk.f k x1).bind fun t1150 => (if t1150 = true then (spec_BalsPost.l0 k x0 x1 x2 y1147 0) else (some (y1147, 2))))) else (none)))
def spec_BalsPost.l0 : Nat → List (S106) → List (S93) → List Int → List (S106) → Int → Option ((List (S106)) × Int)
  | 0, _, _, _, _, _ => none
  | k + 1, x0, x1, x2, x9, x10 => if x10 < (x1.length : Int) then (if 0 ≤ x10 then ((spec_l4Of.f k x9 ((rd_T93 x1 x10).f0) ((rd_T93 x1 x10).f1)).bind fun t1153 => ((spec_AddIn.f t1153 ((rd_T93 x1 x10).f2)).bind fun bt1155 => (if bt1155.2 = true then ((spec_l4Put.f k x9 ((rd_T93 x1 x10).f0) ((rd_T93 x1 x10).f1) bt1155.1).bind fun t1159 => (spec_BalsPost.l0 k x0 x1 x2 t1159 (wrap64 (x10 + 1)))) else ((some (([] : List (S106)) : List (S106))).bind fun y1162 => (if y1162.length + x0.length < 5864062014805 then (some ((y1162 ++ x0), 4)) else (none)))))) else (none)) else (spec_BalsPost.l1 k x0 x1 x2 x9 0)
def spec_BalsPost.l1 : Nat → List (S106) → List (S93) → List Int → List (S106) → Int → Option ((List (S106)) × Int)
  | 0, _, _, _, _, _ => none
  | k + 1, x0, x1, x2, x9, x13 => if x13 < (x1.length : Int) then (if 0 ≤ x13 then ((spec_l4Of.f k x9 ((rd_T93 x1 x13).f0) ((rd_T93 x1 x13).f1)).bind fun t1176 => (if t1176 < 0 then ((spec_l4Has.f k x2 ((rd_T93 x1 x13).f0)).bind fun t1178 => (if t1178 = true then (spec_BalsPost.l1 k x0 x1 x2 x9 (wrap64 (x13 + 1))) else ((some (([] : List (S106)) : List (S106))).bind fun y1179 => (if y1179.length + x0.length < 5864062014805 then (some ((y1179 ++ x0), 3)) else (none))))) else (spec_BalsPost.l1 k x0 x1 x2 x9 (wrap64 (x13 + 1))))) else (none)) else (if (x9.length : Int) > 160 then ((some (([] : List (S106)) : List (S106))).bind fun y1168 => (if y1168.length + x0.length < 5864062014805 then (some ((y1168 ++ x0), 5)) else (none))) else (some (x9, 0)))
end
def spec_BalsPost.f (k : Nat) (l0 : List (S106)) (l1 : List (S93)) (l2 : List Int) : Option ((List (S106)) × Int) := (spec_BalsOk.f k l0).bind fun t1139 => (if t1139 = true then ((spec_l4LegsRight.f k l1).bind fun t1140 => (if t1140 = true then (spec_BalsPost.j0 k l0 l1 l2 (decide ((l2.length : Int) > 20))) else (spec_BalsPost.j0 k l0 l1 l2 true))) else (spec_BalsPost.j0 k l0 l1 l2 true))
def spec_l6Short.l0 : Nat → List Int → Int → List (S80) → List (S84) → List (S106) → List (S110) → List (S60) → Int → Option (List Int)
  | 0, _, _, _, _, _, _, _, _ => none
  | k + 1, x3, x4, x1186000, x1186001, x1186002, x1186003, x1186004, x1186005 => if x4 < (x1186000.length : Int) then (if 0 ≤ x4 then (if ((rd_T80 x1186000 x4).f1) = 1 then (spec_l6Short.l0 k x3 (wrap64 (x4 + 1)) x1186000 x1186001 x1186002 x1186003 x1186004 x1186005) else (if x3.length < 17592186044416 then (spec_l6Short.l0 k (x3 ++ [(rd_T80 x1186000 x4).f0]) (wrap64 (x4 + 1)) x1186000 x1186001 x1186002 x1186003 x1186004 x1186005) else (none))) else (none)) else (some x3)
def spec_l6Short.f (k : Nat) (l0_0 : List (S80)) (l0_1 : List (S84)) (l0_2 : List (S106)) (l0_3 : List (S110)) (l0_4 : List (S60)) (a0_5 : Int) : Option (List Int) := spec_l6Short.l0 k (([] : List Int)) 0 l0_0 l0_1 l0_2 l0_3 l0_4 a0_5
def spec_l6Pair.f (a0 : Int) (a1 : Int) (a2 : Int) (a3 : Int) : Option ((List (S93))) := some (([(⟨a0, a2, wrap64 (-a3)⟩ : S93), (⟨a1, a2, a3⟩ : S93)] : List (S93)))
end Go.Proofs.YtmfgajbkcnlkcaaGreat.P
namespace Go.Proofs.YtmfgajbkcnlkcaaGreat.P
open Go.RowKit Go.Proofs.YtmfgajbkcnlkcaaGreatW.PrintWords Go.Proofs.YtmfgajbkcnlkcaaGreatW.PrintLast Go.Proofs.YtmfgajbkcnlkcaaGreatW.PrintMore
attribute [local go_sem] max2_int min2_int max_two min_two max_three min_three max_four min_four   -- for this text's walks alone
set_option linter.unusedVariables false
set_option linter.unusedSimpArgs false
mutual
def spec_l5Merge.l0 : Nat → List (S110) → List (S110) → List (S110) → Int → Int → Option ((List (S110)))
  | 0, _, _, _, _, _ => none
  | k + 1, x0, x1, x5, x6, x7 => if x6 < (x0.length : Int) then (spec_l5Merge.j1 k x0 x1 x5 x6 x7 true) else (spec_l5Merge.j1 k x0 x1 x5 x6 x7 (decide (x7 < (x1.length : Int))))
def spec_l5Merge.j1 : Nat → List (S110) → List (S110) → List (S110) → Int → Int → Bool → Option ((List (S110)))
  | 0, _, _, _, _, _, _ => none
  | k + 1, x0, x1, x5, x6, x7, x18 => if x18 = true then (if x7 = (x1.length : Int) then (if 0 ≤ x6 then (if x6 < (x0.length : Int) then (if x5.length < 3518437208883 then (spec_l5Merge.l0 k x0 x1 (x5 ++ [(⟨(rd_T110 x0 x6).f0, (rd_T110 x0 x6).f1, (rd_T110 x0 x6).f2, (rd_T110 x0 x6).f3, (rd_T110 x0 x6).f4⟩ : S110)]) (wrap64 (x6 + 1)) x7) else (none)) else (none)) else (none)) else (if x6 < (x0.length : Int) then (if 0 ≤ x6 then (if 0 ≤ x7 then (if x7 < (x1.length : Int) then ((spec_l5Before.f ((rd_T110 x0 x6).f0) ((rd_T110 x0 x6).f1) ((rd_T110 x0 x6).f2) ((rd_T110 x0 x6).f3) ((rd_T110 x0 x6).f4) ((rd_T110 x1 x7).f0) ((rd_T110 x1 x7).f1) ((rd_T110 x1 x7).f2) ((rd_T110 x1 x7).f3) ((rd_T110 x1 x7).f4)).bind fun t1215 => (if t1215 = true then (if x5.length < 3518437208883 then (spec_l5Merge.l0 k x0 x1 (x5 ++ [(⟨(rd_T110 x0 x6).f0, (rd_T110 x0 x6).f1, (rd_T110 x0 x6).f2, (rd_T110 x0 x6).f3, (rd_T110 x0 x6).f4⟩ : S110)]) (wrap64 (x6 + 1)) x7) else (none)) else (if x5.length < 3518437208883 then (spec_l5Merge.l0 k x0 x1 (x5 ++ [(⟨(rd_T110 x1 x7).f0, (rd_T110 x1 x7).f1, (rd_T110 x1 x7).f2, (rd_T110 x1 x7).f3, (rd_T110 x1 x7).f4⟩ : S110)]) x6 (wrap64 (x7 + 1))) else (none)))) else (none)) else (none)) else (none)) else (if 0 ≤ x7 then (if x7 < (x1.length : Int) then (if x5.length < 3518437208883 then (spec_l5Merge.l0 k x0 x1 (x5 ++ [(⟨(rd_T110 x1 x7).f0, (rd_T110 x1 x7).f1, (rd_T110 x1 x7).f2, (rd_T110 x1 x7).f3, (rd_T110 x1 x7).f4⟩ : S110)]) x6 (wrap64 (x7 + 1))) else (none)) else (none)) else (none)))) else (some x5)
end
def spec_l5Merge.f (k : Nat) (l0 : List (S110)) (l1 : List (S110)) : Option ((List (S110))) := spec_l5Merge.l0 k l0 l1 (([] : List (S110))) 0 0
def spec_LotOpen.j0 : Nat → List (S110) → Bool → Int → Int → Int → Int → Int → Option ((List (S110)) × Int)
  | 0, _, _, _, _, _, _, _ => none
  | k + 1, x0, x14, x1229000, x1229001, x1229002, x1229003, x1229004 => if x14 = true then (some ((([] : List (S110))), 1)) else ((spec_l5Merge.f k x0 (([(⟨x1229000, x1229001, x1229002, x1229003, x1229004⟩ : S110)] : List (S110)))).bind fun t1237 => ((spec_LotsOk.f k t1237).bind fun t1240 => (if t1240 = true then (some (t1237, 0)) else ((some (([] : List (S110)) : List (S110))).bind fun y1241 => (if y1241.length + x0.length < 3518437208883 then (some ((y1241 ++ x0), 3)) else (none))))))
def spec_LotOpen.f (k : Nat) (l0 : List (S110)) (a1_0 : Int) (a1_1 : Int) (a1_2 : Int) (a1_3 : Int) (a1_4 : Int) : Option ((List (S110)) × Int) := (spec_LotsOk.f k l0).bind fun t1229 => (if t1229 = true then ((spec_l5Right.f a1_0 a1_1 a1_2 a1_3 a1_4).bind fun t1230 => (spec_LotOpen.j0 k l0 (!t1230) a1_0 a1_1 a1_2 a1_3 a1_4)) else (spec_LotOpen.j0 k l0 true a1_0 a1_1 a1_2 a1_3 a1_4))
def impl_legsForm_1.f (a0_0 : Int) (a0_1 : Int) (a0_2 : Int) : Option (Bool) := (impl_isNo.f a0_0).bind fun t1416 => (if t1416 = true then ((impl_isNo.f a0_1).bind fun t1417 => (if t1417 = true then ((impl_AmountOk.f a0_2).bind fun t1418 => (some (!t1418))) else (some true))) else (some true))
def impl_legsForm.bad (x : S93) : Bool := !decide ((1 ≤ x.f0 ∧ x.f0 ≤ 1000) ∧ (1 ≤ x.f1 ∧ x.f1 ≤ 1000) ∧ -1000000000000000 ≤ x.f2 ∧ x.f2 ≤ 1000000000000000)
def impl_legsForm.f (l0 : List (S93)) : Option Bool := some (decide ((l0.length : Int) ≤ 160) && !(l0.any impl_legsForm.bad))
mutual
def impl_LegsOk.l0 : Nat → List (S93) → List (S93) → Int → Int → Option (Bool)
  | 0, _, _, _, _ => none
  | k + 1, x0, x11, x12, x13 => if x13 < x12 then (if 0 ≤ x13 then (if x13 < (x11.length : Int) then (impl_LegsOk.l1 k x0 0 x11 x12 x13 x0 (x0.length : Int) 0 ((rd_T93 x11 x13).f0) ((rd_T93 x11 x13).f1) ((rd_T93 x11 x13).f2)) else (none)) else (none)) else (some true)
def impl_LegsOk.l1 : Nat → List (S93) → Int → List (S93) → Int → Int → List (S93) → Int → Int → Int → Int → Int → Option (Bool)
  | 0, _, _, _, _, _, _, _, _, _, _, _ => none
  | k + 1, x0, x5, x11, x12, x13, x17, x18, x19, x1422000, x1422001, x1422002 => if x19 < x18 then (if 0 ≤ x19 then (if x19 < (x17.length : Int) then (if ((rd_T93 x17 x19).f1) = x1422001 then (impl_LegsOk.l1 k x0 (wrap64 (x5 + ((rd_T93 x17 x19).f2))) x11 x12 x13 x17 x18 (wrap64 (x19 + 1)) x1422000 x1422001 x1422002) else (impl_LegsOk.l1 k x0 x5 x11 x12 x13 x17 x18 (wrap64 (x19 + 1)) x1422000 x1422001 x1422002)) else (none)) else (none)) else (if x5 = 0 then (impl_LegsOk.l0 k x0 x11 x12 (wrap64 (x13 + 1))) else (some false))
end
def impl_LegsOk.f (k : Nat) (l0 : List (S93)) : Option (Bool) := (impl_legsForm.f l0).bind fun t1419 => (if t1419 = true then (impl_LegsOk.l0 k l0 l0 (l0.length : Int) 0) else (some false))
def impl_Bal_177.f (l0 : List (S106)) (a1 a2 : Int) : Option (List (S106)) := if 0 ≤ a1 ∧ a1 < a2 ∧ a2 ≤ (l0.length : Int) ∧ l0.length < 1048577 then some (l0.take a1.toNat ++ l0.drop a2.toNat) else none
def impl_Bal_178.f (l0 : List (S106)) (a1 : Int) (l2 : List (S106)) : Option (List (S106)) := if 0 ≤ a1 ∧ a1 ≤ (l0.length : Int) ∧ l2.length = 1 ∧ l0.length < 1048577 then some (l0.take a1.toNat ++ l2 ++ l0.drop a1.toNat) else none
def impl_withBal.f (k : Nat) (l0 : List (S106)) (a1 : Int) (a2 : Int) (a3 : Int) : Option ((List (S106))) := (impl_Bal_99.f l0).bind fun t1424 => ((impl_balAt.f k l0 a1 a2).bind fun bt1427 => (if bt1427.2 = true then ((impl_Bal_177.f t1424 bt1427.1 (wrap64 (bt1427.1 + 1))).bind fun t1429 => (if a3 = 0 then (some t1429) else ((impl_Bal_178.f t1429 bt1427.1 (([(⟨a1, a2, a3⟩ : S106)] : List (S106)))).bind fun t1435 => (some t1435)))) else (if a3 = 0 then (some t1424) else ((impl_Bal_178.f t1424 bt1427.1 (([(⟨a1, a2, a3⟩ : S106)] : List (S106)))).bind fun t1441 => (some t1441)))))
def slices_Index_int_int.l0 : Nat → List Int → Int → Int → Int → Option (Int)
  | 0, _, _, _, _ => none
  | k + 1, x0, x1, x7, x8 => if x8 < x7 then (if 0 ≤ x8 then (if x8 < (x0.length : Int) then (if x1 = (rd x0 x8) then (some x8) else (slices_Index_int_int.l0 k x0 x1 x7 (wrap64 (x8 + 1)))) else (none)) else (none)) else (some (-1))
def slices_Index_int_int.f (k : Nat) (l0 : List Int) (a1 : Int) : Option (Int) := slices_Index_int_int.l0 k l0 a1 (l0.length : Int) 0
def slices_Contains_int_int.f (k : Nat) (l0 : List Int) (a1 : Int) : Option (Bool) := (slices_Index_int_int.f k l0 a1).bind fun t1445 => (some (decide (t1445 ≥ 0)))
mutual
def impl_BalsPost.j0 : Nat → List (S106) → List (S93) → List Int → Bool → Option ((List (S106)) × Int)
  | 0, _, _, _, _ => none
  | k + 1, x0, x1, x2, x27 => if x27 = true then (some (([] : List (S106)), 1)) else ((impl_Bal_99.f x0).bind fun t1448 => ((impl_LegsOk.f k x1).bind fun t1451 => (if t1451 = true then ((impl_Bal_99.f x0).bind fun t1452 => (impl_BalsPost.l0 k x1 x2 t1448 t1452 x1 (x1.length : Int) 0)) else (some (t1448, 2)))))
def impl_BalsPost.l0 : Nat → List (S93) → List Int → List (S106) → List (S106) → List (S93) → Int → Int → Option ((List (S106)) × Int)
  | 0, _, _, _, _, _, _, _ => none
  | k + 1, x1, x2, x8, x9, x36, x37, x38 => if x38 < x37 then (if 0 ≤ x38 then (if x38 < (x36.length : Int) then ((impl_balOf.f k x9 ((rd_T93 x36 x38).f0) ((rd_T93 x36 x38).f1)).bind fun t1457 => ((impl_AmountOk.f (wrap64 (t1457 + ((rd_T93 x36 x38).f2)))).bind fun t1458 => (if t1458 = true then ((impl_withBal.f k x9 ((rd_T93 x36 x38).f0) ((rd_T93 x36 x38).f1) (wrap64 (t1457 + ((rd_T93 x36 x38).f2)))).bind fun t1459 => (impl_BalsPost.l0 k x1 x2 x8 t1459 x36 x37 (wrap64 (x38 + 1)))) else (some (x8, 4))))) else (none)) else (none)) else (impl_BalsPost.l1 k x2 x8 x9 x1 (x1.length : Int) 0)
def impl_BalsPost.l1 : Nat → List Int → List (S106) → List (S106) → List (S93) → Int → Int → Option ((List (S106)) × Int)
  | 0, _, _, _, _, _, _ => none
  | k + 1, x2, x8, x9, x63, x64, x65 => if x65 < x64 then (if 0 ≤ x65 then (if x65 < (x63.length : Int) then ((slices_Contains_int_int.f k x2 ((rd_T93 x63 x65).f0)).bind fun t1464 => (if t1464 = true then (impl_BalsPost.l1 k x2 x8 x9 x63 x64 (wrap64 (x65 + 1))) else ((impl_balOf.f k x9 ((rd_T93 x63 x65).f0) ((rd_T93 x63 x65).f1)).bind fun t1465 => (if t1465 < 0 then (some (x8, 3)) else (impl_BalsPost.l1 k x2 x8 x9 x63 x64 (wrap64 (x65 + 1))))))) else (none)) else (none)) else (if (x9.length : Int) > 160 then (some (x8, 5)) else (some (x9, 0)))
end
def impl_BalsPost.f (k : Nat) (l0 : List (S106)) (l1 : List (S93)) (l2 : List Int) : Option ((List (S106)) × Int) := (impl_BalsOk.f k l0).bind fun t1446 => (if t1446 = true then ((impl_legsForm.f l1).bind fun t1447 => (if t1447 = true then (impl_BalsPost.j0 k l0 l1 l2 (decide ((l2.length : Int) > 20))) else (impl_BalsPost.j0 k l0 l1 l2 true))) else (impl_BalsPost.j0 k l0 l1 l2 true))
def impl_postCode.f (a0 : Int) : Option (Int) := if a0 = 0 then (some 0) else (if a0 = 3 then (some 5) else (if a0 = 4 then (some 8) else (if a0 = 5 then (some 7) else (some 1))))
def impl_Lot_159.f (l0 : List (S110)) (a1 : Int) (l2 : List (S110)) : Option (List (S110)) := if 0 ≤ a1 ∧ a1 ≤ (l0.length : Int) ∧ l2.length = 1 ∧ l0.length < 1048577 then some (l0.take a1.toNat ++ l2 ++ l0.drop a1.toNat) else none
mutual
def impl_LotOpen.j0 : Nat → List (S110) → Bool → Int → Int → Int → Int → Int → Option ((List (S110)) × Int)
  | 0, _, _, _, _, _, _, _ => none
  | k + 1, x0, x16, x1479000, x1479001, x1479002, x1479003, x1479004 => if x16 = true then (some (([] : List (S110)), 1)) else (impl_LotOpen.l0 k x0 0 x1479000 x1479001 x1479002 x1479003 x1479004)
def impl_LotOpen.j2 : Nat → List (S110) → Int → Int → Int → Int → Int → Int → Option ((List (S110)) × Int)
  | 0, _, _, _, _, _, _, _ => none
  | k + 1, x0, x6, x1479000, x1479001, x1479002, x1479003, x1479004 => (impl_Lot_100.f x0).bind fun t1486 => ((impl_Lot_159.f t1486 x6 (([(⟨x1479000, x1479001, x1479002, x1479003, x1479004⟩ : S110)] : List (S110)))).bind fun t1492 => ((impl_LotsOk.f t1492).bind fun t1495 => (if t1495 = true then (some (t1492, 0)) else ((impl_Lot_100.f x0).bind fun t1496 => (some (t1496, 3))))))
def impl_LotOpen.l0 : Nat → List (S110) → Int → Int → Int → Int → Int → Int → Option ((List (S110)) × Int)
  | 0, _, _, _, _, _, _, _ => none
  | k + 1, x0, x6, x1479000, x1479001, x1479002, x1479003, x1479004 => if x6 < (x0.length : Int) then (if 0 ≤ x6 then ((impl_lotBefore.f k ((rd_T110 x0 x6).f0) ((rd_T110 x0 x6).f1) ((rd_T110 x0 x6).f2) ((rd_T110 x0 x6).f3) ((rd_T110 x0 x6).f4) x1479000 x1479001 x1479002 x1479003 x1479004).bind fun t1485 => (if t1485 < 0 then (impl_LotOpen.l0 k x0 (wrap64 (x6 + 1)) x1479000 x1479001 x1479002 x1479003 x1479004) else (impl_LotOpen.j2 k x0 x6 x1479000 x1479001 x1479002 x1479003 x1479004))) else (none)) else (impl_LotOpen.j2 k x0 x6 x1479000 x1479001 x1479002 x1479003 x1479004)
end
def impl_LotOpen.f (k : Nat) (l0 : List (S110)) (a1_0 : Int) (a1_1 : Int) (a1_2 : Int) (a1_3 : Int) (a1_4 : Int) : Option ((List (S110)) × Int) := (impl_LotsOk.f l0).bind fun t1479 => (if t1479 = true then ((impl_LotsOk.f (([(⟨a1_0, a1_1, a1_2, a1_3, a1_4⟩ : S110)] : List (S110)))).bind fun t1483 => (impl_LotOpen.j0 k l0 (!t1483) a1_0 a1_1 a1_2 a1_3 a1_4)) else (impl_LotOpen.j0 k l0 true a1_0 a1_1 a1_2 a1_3 a1_4))
end Go.Proofs.YtmfgajbkcnlkcaaGreat.P
namespace Go.Proofs.YtmfgajbkcnlkcaaGreat.P
open Go.RowKit Go.Proofs.YtmfgajbkcnlkcaaGreatW.PrintWords Go.Proofs.YtmfgajbkcnlkcaaGreatW.PrintLast Go.Proofs.YtmfgajbkcnlkcaaGreatW.PrintMore
attribute [local go_sem] max2_int min2_int max_two min_two max_three min_three max_four min_four   -- for this text's walks alone
set_option linter.unusedVariables false
set_option linter.unusedSimpArgs false
instance impl_Lot_164.inh : Inhabited (S110) := ⟨z110⟩
instance : Inhabited (S110) := ⟨z110⟩
def impl_withLots.uniq (l : List (S110)) : Prop := ∀ x ∈ l, ∀ y ∈ l, x.f0 = y.f0 ∧ x.f1 = y.f1 ∧ x.f2 = y.f2 → x.f3 = y.f3 ∧ x.f4 = y.f4
instance (l : List (S110)) : Decidable (impl_withLots.uniq l) := by unfold impl_withLots.uniq; exact inferInstance
end Go.Proofs.YtmfgajbkcnlkcaaGreat.P
namespace Go.Proofs.YtmfgajbkcnlkcaaGreat.P
open Go.RowKit Go.Proofs.YtmfgajbkcnlkcaaGreatW.PrintWords Go.Proofs.YtmfgajbkcnlkcaaGreatW.PrintLast Go.Proofs.YtmfgajbkcnlkcaaGreatW.PrintMore
attribute [local go_sem] max2_int min2_int max_two min_two max_three min_three max_four min_four   -- for this text's walks alone
set_option linter.unusedVariables false
set_option linter.unusedSimpArgs false
def impl_nosOk_1.f (a0 : Int) : Option (Bool) := (impl_isNo.f a0).bind fun t1414 => (some (!t1414))
def impl_nosOk.bad (x : Int) : Bool := !decide (1 ≤ x ∧ x ≤ 1000)
def impl_nosOk.f (l0 : List Int) : Option Bool := some (!(l0.any impl_nosOk.bad))
def impl_post.l0 : Nat → (Int) → (List S80) → (List S84) → (List S106) → (List S110) → (List S60) → (List S93) → (Int) → (Int) → (List Int) → Option (Bool × List S106 × Int)
  | 0, _, _, _, _, _, _, _, _, _, _ => none
  | k + 1, d, l0, l1, l2, l3, l4, l5, x15, x16, y7 => (if x16 < x15 then (if 0 ≤ x16 then (if x16 < (l0.length : Int) then (if (rd_T80 l0 x16).f1 = 1 then (impl_post.l0 k d l0 l1 l2 l3 l4 l5 x15 (RowKit.wrap64 (x16 + 1)) y7) else (if y7.length + 1 < 17592186044417 then (impl_post.l0 k d l0 l1 l2 l3 l4 l5 x15 (RowKit.wrap64 (x16 + 1)) (y7 ++ ([(rd_T80 l0 x16).f0]))) else none)) else none) else none) else ((impl_BalsPost.f k l2 l5 y7).bind fun r11 => (if r11.2 = 0 then ((impl_postCode.f r11.2).bind fun r12 => (some (true, r11.1, r12))) else ((impl_postCode.f r11.2).bind fun r12 => (some (false, [], r12))))))
def impl_BookIssue.f (k : Nat) (l0_0 : List (S80)) (l0_1 : List (S84)) (l0_2 : List (S106)) (l0_3 : List (S110)) (l0_4 : List (S60)) (a0_5 : Int) (a1 : Int) (a2 : Int) (a3 : Int) (a4 : Int) (a5 : Int) : Option ((List (S80)) × (List (S84)) × (List (S106)) × (List (S110)) × (List (S60)) × Int × Int) := ((impl_BooksOk.f k l0_0 l0_1 l0_2 l0_3 l0_4 a0_5).bind fun r12 => (if r12 = true then ((impl_nosOk.f ([a1] ++ [a2] ++ [a3])).bind fun r13 => (if r13 = true then ((impl_in.f a4 1 1000000000000000).bind fun r14 => (if r14 = true then ((impl_in.f a5 0 1000000000000000).bind fun r15 => (if r15 = true then ((impl_cloneBooks.f l0_0 l0_1 l0_2 l0_3 l0_4 a0_5).bind fun r16 => ((impl_accountKind.f k r16.1 a1).bind fun r817 => (if r817 = 0 then (some (r16.1, r16.2.1, r16.2.2.1, r16.2.2.2.1, r16.2.2.2.2.1, r16.2.2.2.2.2, 3)) else ((impl_accountKind.f k r16.1 a2).bind fun r818 => (if r818 = 0 then (some (r16.1, r16.2.1, r16.2.2.1, r16.2.2.2.1, r16.2.2.2.2.1, r16.2.2.2.2.2, 3)) else ((impl_instrKind.f k r16.2.1 a3).bind fun r819 => (if (!decide (r819 = 0)) = true then ((impl_accountKind.f k r16.1 a1).bind fun r820 => (if r820 = 2 then ((impl_accountKind.f k r16.1 a2).bind fun r821 => (if r821 = 1 then (if a5 = 0 then ((impl_post.l0 k r16.2.2.2.2.2 r16.1 r16.2.1 r16.2.2.1 r16.2.2.2.1 r16.2.2.2.2.1 ([(⟨a1, a3, RowKit.wrap64 (0 - a4)⟩ : S93)] ++ [(⟨a2, a3, a4⟩ : S93)]) ((r16.1.length : Int)) 0 []).bind fun r22 => (if r22.1 = true then (if r22.2.2 = 0 then ((impl_instrKind.f k r16.2.1 a3).bind fun r823 => (if r823 = 2 then (if r16.2.2.2.2.2 ≥ 1000000000 then ((impl_cloneBooks.f l0_0 l0_1 l0_2 l0_3 l0_4 a0_5).bind fun r24 => (some (r24.1, r24.2.1, r24.2.2.1, r24.2.2.2.1, r24.2.2.2.2.1, r24.2.2.2.2.2, 7))) else ((impl_LotOpen.f k r16.2.2.2.1 a2 a3 (RowKit.wrap64 (r16.2.2.2.2.2 + 1)) a4 a5).bind fun r1124 => (if r1124.2 = 0 then (some (r16.1, r16.2.1, r22.2.1, r1124.1, r16.2.2.2.2.1, RowKit.wrap64 (r16.2.2.2.2.2 + 1), 0)) else ((impl_cloneBooks.f l0_0 l0_1 l0_2 l0_3 l0_4 a0_5).bind fun r25 => (some (r25.1, r25.2.1, r25.2.2.1, r25.2.2.2.1, r25.2.2.2.2.1, r25.2.2.2.2.2, 7)))))) else (if r22.2.2 = 0 then (some (r16.1, r16.2.1, r22.2.1, r16.2.2.2.1, r16.2.2.2.2.1, r16.2.2.2.2.2, 0)) else ((impl_cloneBooks.f l0_0 l0_1 l0_2 l0_3 l0_4 a0_5).bind fun r24 => (some (r24.1, r24.2.1, r24.2.2.1, r24.2.2.2.1, r24.2.2.2.2.1, r24.2.2.2.2.2, r22.2.2)))))) else (if r22.2.2 = 0 then (some (r16.1, r16.2.1, r22.2.1, r16.2.2.2.1, r16.2.2.2.2.1, r16.2.2.2.2.2, 0)) else ((impl_cloneBooks.f l0_0 l0_1 l0_2 l0_3 l0_4 a0_5).bind fun r23 => (some (r23.1, r23.2.1, r23.2.2.1, r23.2.2.2.1, r23.2.2.2.2.1, r23.2.2.2.2.2, r22.2.2))))) else (if r22.2.2 = 0 then ((impl_instrKind.f k r16.2.1 a3).bind fun r823 => (if r823 = 2 then (if r16.2.2.2.2.2 ≥ 1000000000 then ((impl_cloneBooks.f l0_0 l0_1 l0_2 l0_3 l0_4 a0_5).bind fun r24 => (some (r24.1, r24.2.1, r24.2.2.1, r24.2.2.2.1, r24.2.2.2.2.1, r24.2.2.2.2.2, 7))) else ((impl_LotOpen.f k r16.2.2.2.1 a2 a3 (RowKit.wrap64 (r16.2.2.2.2.2 + 1)) a4 a5).bind fun r1124 => (if r1124.2 = 0 then (some (r16.1, r16.2.1, r16.2.2.1, r1124.1, r16.2.2.2.2.1, RowKit.wrap64 (r16.2.2.2.2.2 + 1), 0)) else ((impl_cloneBooks.f l0_0 l0_1 l0_2 l0_3 l0_4 a0_5).bind fun r25 => (some (r25.1, r25.2.1, r25.2.2.1, r25.2.2.2.1, r25.2.2.2.2.1, r25.2.2.2.2.2, 7)))))) else (if r22.2.2 = 0 then (some (r16.1, r16.2.1, r16.2.2.1, r16.2.2.2.1, r16.2.2.2.2.1, r16.2.2.2.2.2, 0)) else ((impl_cloneBooks.f l0_0 l0_1 l0_2 l0_3 l0_4 a0_5).bind fun r24 => (some (r24.1, r24.2.1, r24.2.2.1, r24.2.2.2.1, r24.2.2.2.2.1, r24.2.2.2.2.2, r22.2.2)))))) else (if r22.2.2 = 0 then (some (r16.1, r16.2.1, r16.2.2.1, r16.2.2.2.1, r16.2.2.2.2.1, r16.2.2.2.2.2, 0)) else ((impl_cloneBooks.f l0_0 l0_1 l0_2 l0_3 l0_4 a0_5).bind fun r23 => (some (r23.1, r23.2.1, r23.2.2.1, r23.2.2.2.1, r23.2.2.2.2.1, r23.2.2.2.2.2, r22.2.2))))))) else ((impl_instrKind.f k r16.2.1 a3).bind fun r822 => (if r822 = 1 then (some (r16.1, r16.2.1, r16.2.2.1, r16.2.2.2.1, r16.2.2.2.2.1, r16.2.2.2.2.2, 4)) else ((impl_post.l0 k r16.2.2.2.2.2 r16.1 r16.2.1 r16.2.2.1 r16.2.2.2.1 r16.2.2.2.2.1 ([(⟨a1, a3, RowKit.wrap64 (0 - a4)⟩ : S93)] ++ [(⟨a2, a3, a4⟩ : S93)]) ((r16.1.length : Int)) 0 []).bind fun r23 => (if r23.1 = true then (if r23.2.2 = 0 then ((impl_instrKind.f k r16.2.1 a3).bind fun r824 => (if r824 = 2 then (if r16.2.2.2.2.2 ≥ 1000000000 then ((impl_cloneBooks.f l0_0 l0_1 l0_2 l0_3 l0_4 a0_5).bind fun r25 => (some (r25.1, r25.2.1, r25.2.2.1, r25.2.2.2.1, r25.2.2.2.2.1, r25.2.2.2.2.2, 7))) else ((impl_LotOpen.f k r16.2.2.2.1 a2 a3 (RowKit.wrap64 (r16.2.2.2.2.2 + 1)) a4 a5).bind fun r1125 => (if r1125.2 = 0 then (some (r16.1, r16.2.1, r23.2.1, r1125.1, r16.2.2.2.2.1, RowKit.wrap64 (r16.2.2.2.2.2 + 1), 0)) else ((impl_cloneBooks.f l0_0 l0_1 l0_2 l0_3 l0_4 a0_5).bind fun r26 => (some (r26.1, r26.2.1, r26.2.2.1, r26.2.2.2.1, r26.2.2.2.2.1, r26.2.2.2.2.2, 7)))))) else (if r23.2.2 = 0 then (some (r16.1, r16.2.1, r23.2.1, r16.2.2.2.1, r16.2.2.2.2.1, r16.2.2.2.2.2, 0)) else ((impl_cloneBooks.f l0_0 l0_1 l0_2 l0_3 l0_4 a0_5).bind fun r25 => (some (r25.1, r25.2.1, r25.2.2.1, r25.2.2.2.1, r25.2.2.2.2.1, r25.2.2.2.2.2, r23.2.2)))))) else (if r23.2.2 = 0 then (some (r16.1, r16.2.1, r23.2.1, r16.2.2.2.1, r16.2.2.2.2.1, r16.2.2.2.2.2, 0)) else ((impl_cloneBooks.f l0_0 l0_1 l0_2 l0_3 l0_4 a0_5).bind fun r24 => (some (r24.1, r24.2.1, r24.2.2.1, r24.2.2.2.1, r24.2.2.2.2.1, r24.2.2.2.2.2, r23.2.2))))) else (if r23.2.2 = 0 then ((impl_instrKind.f k r16.2.1 a3).bind fun r824 => (if r824 = 2 then (if r16.2.2.2.2.2 ≥ 1000000000 then ((impl_cloneBooks.f l0_0 l0_1 l0_2 l0_3 l0_4 a0_5).bind fun r25 => (some (r25.1, r25.2.1, r25.2.2.1, r25.2.2.2.1, r25.2.2.2.2.1, r25.2.2.2.2.2, 7))) else ((impl_LotOpen.f k r16.2.2.2.1 a2 a3 (RowKit.wrap64 (r16.2.2.2.2.2 + 1)) a4 a5).bind fun r1125 => (if r1125.2 = 0 then (some (r16.1, r16.2.1, r16.2.2.1, r1125.1, r16.2.2.2.2.1, RowKit.wrap64 (r16.2.2.2.2.2 + 1), 0)) else ((impl_cloneBooks.f l0_0 l0_1 l0_2 l0_3 l0_4 a0_5).bind fun r26 => (some (r26.1, r26.2.1, r26.2.2.1, r26.2.2.2.1, r26.2.2.2.2.1, r26.2.2.2.2.2, 7)))))) else (if r23.2.2 = 0 then (some (r16.1, r16.2.1, r16.2.2.1, r16.2.2.2.1, r16.2.2.2.2.1, r16.2.2.2.2.2, 0)) else ((impl_cloneBooks.f l0_0 l0_1 l0_2 l0_3 l0_4 a0_5).bind fun r25 => (some (r25.1, r25.2.1, r25.2.2.1, r25.2.2.2.1, r25.2.2.2.2.1, r25.2.2.2.2.2, r23.2.2)))))) else (if r23.2.2 = 0 then (some (r16.1, r16.2.1, r16.2.2.1, r16.2.2.2.1, r16.2.2.2.2.1, r16.2.2.2.2.2, 0)) else ((impl_cloneBooks.f l0_0 l0_1 l0_2 l0_3 l0_4 a0_5).bind fun r24 => (some (r24.1, r24.2.1, r24.2.2.1, r24.2.2.2.1, r24.2.2.2.2.1, r24.2.2.2.2.2, r23.2.2)))))))))) else (some (r16.1, r16.2.1, r16.2.2.1, r16.2.2.2.1, r16.2.2.2.2.1, r16.2.2.2.2.2, 4)))) else (some (r16.1, r16.2.1, r16.2.2.1, r16.2.2.2.1, r16.2.2.2.2.1, r16.2.2.2.2.2, 4)))) else (some (r16.1, r16.2.1, r16.2.2.1, r16.2.2.2.1, r16.2.2.2.2.1, r16.2.2.2.2.2, 3))))))))) else (some ([], [], [], [], [], 0, 1)))) else (some ([], [], [], [], [], 0, 1)))) else (some ([], [], [], [], [], 0, 1)))) else (some ([], [], [], [], [], 0, 1))))
def own_BookIssue.f (k : Nat) (l0_0 : List (S80)) (l0_1 : List (S84)) (l0_2 : List (S106)) (l0_3 : List (S110)) (l0_4 : List (S60)) (a0_5 : Int) (a1 : Int) (a2 : Int) (a3 : Int) (a4 : Int) (a5 : Int) : Option ((List (S80)) × (List (S84)) × (List (S106)) × (List (S110)) × (List (S60)) × Int × Int) := ((spec_BooksOk.f k l0_0 l0_1 l0_2 l0_3 l0_4 a0_5).bind fun r12 => (if r12 = true then ((spec_l3No.f a1).bind fun r13 => (if r13 = true then ((spec_l3No.f a2).bind fun r14 => (if r14 = true then ((spec_l3No.f a3).bind fun r15 => (if r15 = true then ((spec_l1Some.f a4 1).bind fun r16 => (if r16 = true then ((spec_l1Some.f a5 0).bind fun r17 => (if r17 = true then ((spec_AccountKind.f k l0_0 a1).bind fun r18 => ((spec_AccountKind.f k l0_0 a2).bind fun r19 => ((spec_InstrKind.f k l0_1 a3).bind fun r20 => (if r18 = 0 then ((spec_l6Copy.f l0_0 l0_1 l0_2 l0_3 l0_4 a0_5).bind fun r21 => (some (r21.1, r21.2.1, r21.2.2.1, r21.2.2.2.1, r21.2.2.2.2.1, r21.2.2.2.2.2, 3))) else (if r19 = 0 then ((spec_l6Copy.f l0_0 l0_1 l0_2 l0_3 l0_4 a0_5).bind fun r21 => (some (r21.1, r21.2.1, r21.2.2.1, r21.2.2.2.1, r21.2.2.2.2.1, r21.2.2.2.2.2, 3))) else (if r20 = 0 then ((spec_l6Copy.f l0_0 l0_1 l0_2 l0_3 l0_4 a0_5).bind fun r21 => (some (r21.1, r21.2.1, r21.2.2.1, r21.2.2.2.1, r21.2.2.2.2.1, r21.2.2.2.2.2, 3))) else (if r18 = 2 then (if r19 = 1 then (if a5 > 0 then (if r20 = 1 then ((spec_l6Copy.f l0_0 l0_1 l0_2 l0_3 l0_4 a0_5).bind fun r21 => (some (r21.1, r21.2.1, r21.2.2.1, r21.2.2.2.1, r21.2.2.2.2.1, r21.2.2.2.2.2, 4))) else ((spec_l6Copy.f l0_0 l0_1 l0_2 l0_3 l0_4 a0_5).bind fun r21 => ((spec_l6Pair.f a1 a2 a3 a4).bind fun r22 => ((spec_l6Short.f k r21.1 r21.2.1 r21.2.2.1 r21.2.2.2.1 r21.2.2.2.2.1 r21.2.2.2.2.2).bind fun r823 => ((spec_BalsPost.f k r21.2.2.1 r22 r823).bind fun r924 => (if r924.2 = 0 then (if r20 = 2 then (if r21.2.2.2.2.2 = 1000000000 then ((spec_l6Copy.f l0_0 l0_1 l0_2 l0_3 l0_4 a0_5).bind fun r25 => (some (r25.1, r25.2.1, r25.2.2.1, r25.2.2.2.1, r25.2.2.2.2.1, r25.2.2.2.2.2, 7))) else ((spec_LotOpen.f k r21.2.2.2.1 a2 a3 (RowKit.wrap64 (r21.2.2.2.2.2 + 1)) a4 a5).bind fun r1125 => (if r1125.2 = 0 then (some (r21.1, r21.2.1, r924.1, r1125.1, r21.2.2.2.2.1, RowKit.wrap64 (r21.2.2.2.2.2 + 1), 0)) else ((spec_l6Copy.f l0_0 l0_1 l0_2 l0_3 l0_4 a0_5).bind fun r26 => (some (r26.1, r26.2.1, r26.2.2.1, r26.2.2.2.1, r26.2.2.2.2.1, r26.2.2.2.2.2, 7)))))) else (some (r21.1, r21.2.1, r924.1, r21.2.2.2.1, r21.2.2.2.2.1, r21.2.2.2.2.2, 0))) else (if r924.2 = 3 then ((spec_l6Copy.f l0_0 l0_1 l0_2 l0_3 l0_4 a0_5).bind fun r25 => (some (r25.1, r25.2.1, r25.2.2.1, r25.2.2.2.1, r25.2.2.2.2.1, r25.2.2.2.2.2, 5))) else (if r924.2 = 4 then ((spec_l6Copy.f l0_0 l0_1 l0_2 l0_3 l0_4 a0_5).bind fun r25 => (some (r25.1, r25.2.1, r25.2.2.1, r25.2.2.2.1, r25.2.2.2.2.1, r25.2.2.2.2.2, 8))) else ((spec_l6Copy.f l0_0 l0_1 l0_2 l0_3 l0_4 a0_5).bind fun r25 => (some (r25.1, r25.2.1, r25.2.2.1, r25.2.2.2.1, r25.2.2.2.2.1, r25.2.2.2.2.2, 7))))))))))) else ((spec_l6Copy.f l0_0 l0_1 l0_2 l0_3 l0_4 a0_5).bind fun r21 => ((spec_l6Pair.f a1 a2 a3 a4).bind fun r22 => ((spec_l6Short.f k r21.1 r21.2.1 r21.2.2.1 r21.2.2.2.1 r21.2.2.2.2.1 r21.2.2.2.2.2).bind fun r823 => ((spec_BalsPost.f k r21.2.2.1 r22 r823).bind fun r924 => (if r924.2 = 0 then (if r20 = 2 then (if r21.2.2.2.2.2 = 1000000000 then ((spec_l6Copy.f l0_0 l0_1 l0_2 l0_3 l0_4 a0_5).bind fun r25 => (some (r25.1, r25.2.1, r25.2.2.1, r25.2.2.2.1, r25.2.2.2.2.1, r25.2.2.2.2.2, 7))) else ((spec_LotOpen.f k r21.2.2.2.1 a2 a3 (RowKit.wrap64 (r21.2.2.2.2.2 + 1)) a4 a5).bind fun r1125 => (if r1125.2 = 0 then (some (r21.1, r21.2.1, r924.1, r1125.1, r21.2.2.2.2.1, RowKit.wrap64 (r21.2.2.2.2.2 + 1), 0)) else ((spec_l6Copy.f l0_0 l0_1 l0_2 l0_3 l0_4 a0_5).bind fun r26 => (some (r26.1, r26.2.1, r26.2.2.1, r26.2.2.2.1, r26.2.2.2.2.1, r26.2.2.2.2.2, 7)))))) else (some (r21.1, r21.2.1, r924.1, r21.2.2.2.1, r21.2.2.2.2.1, r21.2.2.2.2.2, 0))) else (if r924.2 = 3 then ((spec_l6Copy.f l0_0 l0_1 l0_2 l0_3 l0_4 a0_5).bind fun r25 => (some (r25.1, r25.2.1, r25.2.2.1, r25.2.2.2.1, r25.2.2.2.2.1, r25.2.2.2.2.2, 5))) else (if r924.2 = 4 then ((spec_l6Copy.f l0_0 l0_1 l0_2 l0_3 l0_4 a0_5).bind fun r25 => (some (r25.1, r25.2.1, r25.2.2.1, r25.2.2.2.1, r25.2.2.2.2.1, r25.2.2.2.2.2, 8))) else ((spec_l6Copy.f l0_0 l0_1 l0_2 l0_3 l0_4 a0_5).bind fun r25 => (some (r25.1, r25.2.1, r25.2.2.1, r25.2.2.2.1, r25.2.2.2.2.1, r25.2.2.2.2.2, 7))))))))))) else ((spec_l6Copy.f l0_0 l0_1 l0_2 l0_3 l0_4 a0_5).bind fun r21 => (some (r21.1, r21.2.1, r21.2.2.1, r21.2.2.2.1, r21.2.2.2.2.1, r21.2.2.2.2.2, 4)))) else ((spec_l6Copy.f l0_0 l0_1 l0_2 l0_3 l0_4 a0_5).bind fun r21 => (some (r21.1, r21.2.1, r21.2.2.1, r21.2.2.2.1, r21.2.2.2.2.1, r21.2.2.2.2.2, 4)))))))))) else (some ([], [], [], [], [], 0, 1)))) else (some ([], [], [], [], [], 0, 1)))) else (some ([], [], [], [], [], 0, 1)))) else (some ([], [], [], [], [], 0, 1)))) else (some ([], [], [], [], [], 0, 1)))) else (some ([], [], [], [], [], 0, 1))))
def laws_FnExactBookIssue.f (k : Nat) (l0_0 : List (S103)) (l0_1 : List (S105)) (l0_2 : List (S108)) (l0_3 : List (S112)) (l0_4 : List (S114)) (a0_5 : Int) (a1 : Int) (a2 : Int) (a3 : Int) (a4 : Int) (a5 : Int) : Option (Bool) := ((laws_szBooks.f l0_0 l0_1 l0_2 l0_3 l0_4 a0_5 1048576).bind fun r12 => (if r12 < 0 then (some true) else ((laws_toBooks.f k l0_0 l0_1 l0_2 l0_3 l0_4 a0_5).bind fun r13 => ((own_BookIssue.f k r13.1 r13.2.1 r13.2.2.1 r13.2.2.2.1 r13.2.2.2.2.1 r13.2.2.2.2.2 a1 a2 a3 a4 a5).bind fun r14 => ((laws_toBooks.f k l0_0 l0_1 l0_2 l0_3 l0_4 a0_5).bind fun r15 => ((impl_BookIssue.f k r15.1 r15.2.1 r15.2.2.1 r15.2.2.2.1 r15.2.2.2.2.1 r15.2.2.2.2.2 a1 a2 a3 a4 a5).bind fun r16 => ((laws_eqBooks.f k r16.1 r16.2.1 r16.2.2.1 r16.2.2.2.1 r16.2.2.2.2.1 r16.2.2.2.2.2.1 r14.1 r14.2.1 r14.2.2.1 r14.2.2.2.1 r14.2.2.2.2.1 r14.2.2.2.2.2.1).bind fun r17 => (if r17 = true then (if r16.2.2.2.2.2.2 = r14.2.2.2.2.2.2 then ((laws_toBooks.f k l0_0 l0_1 l0_2 l0_3 l0_4 a0_5).bind fun r18 => ((laws_eqBooks.f k r15.1 r15.2.1 r15.2.2.1 r15.2.2.2.1 r15.2.2.2.2.1 r15.2.2.2.2.2 r18.1 r18.2.1 r18.2.2.1 r18.2.2.2.1 r18.2.2.2.2.1 r18.2.2.2.2.2).bind fun r19 => (if r19 = true then ((laws_markBooks.f k r15.1 r15.2.1 r15.2.2.1 r15.2.2.2.1 r15.2.2.2.2.1 r15.2.2.2.2.2 1).bind fun r20 => (if r20.1 < 0 then (some false) else ((laws_eqBooks.f k r16.1 r16.2.1 r16.2.2.1 r16.2.2.2.1 r16.2.2.2.2.1 r16.2.2.2.2.2.1 r14.1 r14.2.1 r14.2.2.1 r14.2.2.2.1 r14.2.2.2.2.1 r14.2.2.2.2.2.1).bind fun r21 => (if r21 = true then (if r16.2.2.2.2.2.2 = r14.2.2.2.2.2.2 then ((laws_markBooks.f k r16.1 r16.2.1 r16.2.2.1 r16.2.2.2.1 r16.2.2.2.2.1 r16.2.2.2.2.2.1 1).bind fun r22 => ((laws_heldBooks.f k r22.2.1 r22.2.2.1 r22.2.2.2.1 r22.2.2.2.2.1 r22.2.2.2.2.2 r16.2.2.2.2.2.1 1).bind fun r23 => (if r23 < 0 then (some false) else (if r23 = r22.1 then ((laws_toBooks.f k l0_0 l0_1 l0_2 l0_3 l0_4 a0_5).bind fun r24 => ((impl_BookIssue.f k r24.1 r24.2.1 r24.2.2.1 r24.2.2.2.1 r24.2.2.2.2.1 r24.2.2.2.2.2 a1 a2 a3 a4 a5).bind fun r25 => ((laws_eqBooks.f k r25.1 r25.2.1 r25.2.2.1 r25.2.2.2.1 r25.2.2.2.2.1 r25.2.2.2.2.2.1 r14.1 r14.2.1 r14.2.2.1 r14.2.2.2.1 r14.2.2.2.2.1 r14.2.2.2.2.2.1).bind fun r26 => (if r26 = true then (if r25.2.2.2.2.2.2 = r14.2.2.2.2.2.2 then ((laws_heldBooks.f k r22.2.1 r22.2.2.1 r22.2.2.2.1 r22.2.2.2.2.1 r22.2.2.2.2.2 r16.2.2.2.2.2.1 1).bind fun r27 => (if r27 < 0 then (some false) else (if r27 = r22.1 then (some true) else (some false)))) else (some false)) else (some false))))) else (some false))))) else (some false)) else (some false))))) else (some false)))) else (some false)) else (some false)))))))))
end Go.Proofs.YtmfgajbkcnlkcaaGreat.P
namespace Go.Proofs.YtmfgajbkcnlkcaaGreat.AI
set_option linter.all false
open Go
inductive Sc where
  | i (k : IntKind) (n : Int)
  | b (x : Bool)
def Sc.v : Sc → Value
  | .i k n => .int k n
  | .b x => .bool x
class RowT (R : Type) where
  ty : R → TypeId
  cel : R → List (List Sc)
  len : R → Nat
  elt : R → Nat → List Sc
  nil : TypeId → Option R
  zer : TypeId → Nat → Option R
  snoc : R → List Sc → Option R
  app : R → R → Option R
  set : R → Nat → List Sc → Option R
  setK : R → Nat → List Sc → (Z : Type) → (R → Option Z) → Option Z
inductive C where
  | sc (v : Sc)
  | kb (b : Bool)
  | bo (p : Prop) (i : Decidable p)
  | nb (p : Prop) (i : Decidable p)
  | rw (id : Nat)
inductive W where
  | c (x : C)
  | ag (cs : List C)
inductive V where
  | w (x : W)
  | tu (ws : List W)
  | pt (id off : Nat)
  | ep (id sz i off : Nat)
  | nl
  | un
  | no
inductive Blk (R : Type) where
  | rows (k : Nat) (r : R)
  | box (t : TypeId) (cs : List C)
  | dead
structure St (R : Type) where
  nt : Nat
  na : Nat
  nx : Nat
  tm : List (Nat × V)
  hp : List (Nat × Blk R)
structure Out (R : Type) where
  res : List W
  hp : List (Blk R)
structure Tst where
  p : Prop
  i : Decidable p
def get {α : Type} : List (Nat × α) → Nat → Option α
  | [], _ => none
  | (k, v) :: r, n => cond (Nat.beq k n) (some v) (get r n)
def nth {α : Type} : List α → Nat → Option α
  | [], _ => none
  | x :: _, 0 => some x
  | _ :: r, n + 1 => nth r n
def setAt {α : Type} : List α → Nat → α → List α
  | [], _, _ => []
  | _ :: r, 0, y => y :: r
  | x :: r, n + 1, y => x :: setAt r n y
section
variable {R : Type} [RowT R]
def St.v (st : St R) (t : Nat) : V := (get st.tm t).getD .no
def ev (st : St R) : Operand → V
  | .tmp t => st.v t
  | .const (.bool b) => .w (.c (.kb b))
  | .const (.int k n) => .w (.c (.sc (.i k n)))
  | .const (.slice none 0 0) => .nl
  | _ => .no
def St.put (st : St R) (d : Option Nat) (v : V) : Option (St R) :=
  match d with
  | none => some st
  | some d => cond (Nat.blt d st.nt) (some { st with tm := (d, v) :: st.tm }) none
def St.know (st : St R) (t : Nat) (b : Bool) : St R := { st with tm := (t, .w (.c (.kb b))) :: st.tm }
def wr (k : IntKind) (n : Int) : Int := match k with
  | .i64 => RowKit.wrap64 n
  | k => k.wrap n
theorem wr_eq (k : IntKind) (n : Int) : wr k n = k.wrap n := by
  cases k <;> first | rfl | (simp only [wr]; rw [IntKind.wrap_i64]; unfold RowKit.wrap64; rfl)
def C.val : C → Option Sc
  | .sc v => some v
  | .kb b => some (.b b)
  | .bo p i => some (.b (@decide p i))
  | .nb p i => some (.b (!@decide p i))
  | .rw _ => none
def binI (op : BinOp) (k : IntKind) (a b : Int) : Option (List Tst × C) :=
  match op with
  | .add => some ([], .sc (.i k (wr k (a + b))))
  | .sub => some ([], .sc (.i k (wr k (a - b))))
  | .mul => some ([], .sc (.i k (wr k (a * b))))
  | .quo => some ([⟨b ≠ 0, inferInstance⟩], .sc (.i k (wr k (a.tdiv b))))
  | .rem => some ([⟨b ≠ 0, inferInstance⟩], .sc (.i k (a.tmod b)))
  | .eql => some ([], .bo (a = b) inferInstance)
  | .neq => some ([], .nb (a = b) inferInstance)
  | .lss => some ([], .bo (a < b) inferInstance)
  | .leq => some ([], .bo (a ≤ b) inferInstance)
  | .gtr => some ([], .bo (a > b) inferInstance)
  | .geq => some ([], .bo (a ≥ b) inferInstance)
  | _ => none
def isBool (P : Program) (t : TypeId) : Bool := match P.underlying t with
  | some .bool => true
  | _ => false
def binV (bl : Bool) (op : BinOp) : V → V → Option (List Tst × C)
  | .w (.c (.sc (.i k a))), .w (.c (.sc (.i k' b))) => if k = k' then binI op k a b else none
  | .w (.c x), .w (.c y) => match C.val x, C.val y with
    | some (.b a), some (.b b) => cond bl (match op with
      | .eql => some ([], .sc (.b (a == b)))
      | .neq => some ([], .sc (.b (a != b)))
      | _ => none) none
    | _, _ => none
  | _, _ => none
def unV (op : UnOp) : V → Option C
  | .w (.c x) =>
    match op, x with
    | .not, .kb b => some (.kb (!b))
    | .not, .bo p i => some (.nb p i)
    | .not, .nb p i => some (.bo p i)
    | .not, .sc (.b b) => some (.nb (b = true) inferInstance)
    | .neg, .sc (.i k n) => some (.sc (.i k (wr k (0 - n))))
    | _, _ => none
  | _ => none
def vals : List C → Option (List Sc)
  | [] => some []
  | c :: r => match c.val, vals r with
    | some v, some vs => some (v :: vs)
    | _, _ => none
def W.cells : W → List C
  | .c x => [x]
  | .ag cs => cs
def zeroC (P : Program) (nx : Nat) : List Value → List Field → Option (Nat × List C × List (Nat × Blk R))
  | [], [] => some (nx, [], [])
  | .slice none 0 0 :: vs, f :: fs =>
    match P.underlying f.type with
    | some (.slice e) => match (RowT.nil e : Option R), zeroC P (nx + 1) vs fs with
      | some r, some (nx', cs, es) => some (nx', .rw nx :: cs, es ++ [(nx, .rows 2 r)])
      | _, _ => none
    | _ => none
  | .int k n :: vs, _ :: fs => match zeroC P nx vs fs with
    | some (nx', cs, es) => some (nx', .sc (.i k n) :: cs, es)
    | none => none
  | .bool b :: vs, _ :: fs => match zeroC P nx vs fs with
    | some (nx', cs, es) => some (nx', .kb b :: cs, es)
    | none => none
  | _, _ => none
def zeroOf (P : Program) (t : TypeId) (st : St R) : Option (St R × List C) :=
  match P.underlying t, P.info? t with
  | some (.struct fs), some i => match i.zero with
    | some (.agg cs) => match zeroC P st.nx cs.toList fs.toList with
      | some (nx, cs, es) => some ({ st with nx := nx, hp := es ++ st.hp }, cs)
      | none => none
    | _ => none
  | _, _ => none
def newRows (st : St R) (d : Option Nat) (r : R) : Option (St R) :=
  ({ st with nx := st.nx + 1, hp := (st.nx, .rows 2 r) :: st.hp } : St R).put d (.w (.c (.rw st.nx)))
def newBox (st : St R) (d : Option Nat) (t : TypeId) (cs : List C) : Option (St R) :=
  ({ st with nx := st.nx + 1, hp := (st.nx, .box t cs) :: st.hp } : St R).put d (.pt st.nx 0)
def parts (st : St R) : List (Nat × Operand) → List C → Option (List C)
  | [], cs => some cs
  | (i, x) :: r, cs => match ev st x with
    | .w (.c y) => match nth cs i with
      | some _ => parts st r (setAt cs i y)
      | none => none
    | _ => none
def elems (st : St R) : List (Nat × Operand) → Nat → R → Option R
  | [], _, r => some r
  | (i, x) :: rest, n, r => cond (Nat.beq i n) (match ev st x with
    | .w y => match vals y.cells with
      | some vs => match RowT.snoc r vs with
        | some r' => elems st rest (n + 1) r'
        | none => none
      | none => none
    | _ => none) none
def offOf (P : Program) (fs : List Field) (f : Nat) : Option Nat := match nth fs f with
  | some x => cond (Nat.beq (P.cellsOf x.type) 1) (some x.offset) none
  | none => none
def isStruct (P : Program) (t : TypeId) : Bool := match P.underlying t with
  | some (.struct _) => true
  | _ => false
def isOne (P : Program) (t : TypeId) : Bool := Nat.beq (P.cellsOf t) 1 && match P.underlying t with
  | some (.int _) => true
  | some .bool => true
  | some (.slice _) => true
  | _ => false
def plainF (P : Program) : List Field → Nat → Bool
  | [], _ => true
  | f :: r, n => Nat.beq f.offset n && Nat.beq (P.cellsOf f.type) 1 && plainF P r (n + 1)
def plainS (P : Program) (t : TypeId) (n : Nat) : Bool := match P.underlying t with
  | some (.struct fs) => plainF P fs.toList 0 && Nat.beq n fs.size
  | _ => false
def lim (bytes : Nat) : Nat := 140737488355328 / bytes + 1
def limM (bytes : Nat) : Nat := 281474976710656 / bytes + 1
def mvOf (P : Program) (o : Oper) (st : St R) (x : Operand) : Option (List Tst × St R) := match ev st x with
  | .nl => match x with
    | .const _ => match P.underlying o.type with
      | some (.slice e) => match (RowT.nil e : Option R) with
        | some r => match newRows st o.dst r with
          | some s => some ([], s)
          | none => none
        | none => none
      | _ => none
    | _ => none
  | .no => none
  | .un => none
  | v => match st.put o.dst v with
    | some s => some ([], s)
    | none => none
def pop (P : Program) (o : Oper) (st : St R) : Option (List Tst × St R) :=
  let ok (s : Option (St R)) : Option (List Tst × St R) := match s with
    | some s => some ([], s)
    | none => none
  match o.op with
  | .move x => mvOf P o st x
  | .assign x => mvOf P o st x
  | .pick c a b => match ev st c with
    | .w (.c (.kb true)) => match ev st a with
      | .w (.c x) => ok (st.put o.dst (.w (.c x)))
      | _ => none
    | .w (.c (.kb false)) => match ev st b with
      | .w (.c x) => ok (st.put o.dst (.w (.c x)))
      | _ => none
    | _ => none
  | .alloc t => match zeroOf P t st with
    | some (st', cs) => ok (newBox st' o.dst t cs)
    | none => none
  | .box t x => match ev st x with
    | .w y => ok (newBox st o.dst t y.cells)
    | _ => none
  | .build t ps => match zeroOf P t st with
    | some (st', cs) => match parts st ps.toList cs with
      | some cs' => cond (plainS P t cs.length) (ok (st'.put o.dst (.w (.ag cs')))) none
      | none => none
    | none => none
  | .buildSlice t n ps => match P.underlying t with
    | some (.slice e) => match (RowT.nil e : Option R) with
      | some r0 => match elems st ps.toList 0 r0 with
        | some r => cond (Nat.beq n ps.size && Nat.ble (n * P.cellsOf e) 16777216) (ok (newRows st o.dst r)) none
        | none => none
      | none => none
    | _ => none
  | .load t x => match ev st x with
    | .pt id off => match get st.hp id with
      | some (.box t' cs) =>
        cond (isStruct P t && Nat.beq off 0 && Nat.beq t t' && Nat.beq (P.cellsOf t) cs.length) (ok (st.put o.dst (.w (.ag cs))))
          (cond (isOne P t) (match nth cs off with
            | some c => ok (st.put o.dst (.w (.c c)))
            | none => none) none)
      | _ => none
    | .ep id _ i off => match get st.hp id with
      | some (.rows _ r) =>
        cond (isStruct P t && Nat.beq off 0 && Nat.beq t (RowT.ty r)) (ok (st.put o.dst (.w (.ag ((RowT.elt r i).map .sc)))))
          (cond (isOne P t) (match nth (RowT.elt r i) off with
            | some v => ok (st.put o.dst (.w (.c (.sc v))))
            | none => none) none)
      | _ => none
    | _ => none
  | .store t a x => match o.dst, ev st a, ev st x with
    | none, .pt id off, .w y => match get st.hp id with
      | some (.box t' cs) => match y with
        | .ag ys => cond (isStruct P t && Nat.beq off 0 && Nat.beq t t' && Nat.beq ys.length cs.length && Nat.beq (P.cellsOf t) cs.length) (some ([], { st with hp := (id, .box t' ys) :: st.hp })) none
        | .c y => cond (isOne P t) (match nth cs off with
          | some _ => some ([], { st with hp := (id, .box t' (setAt cs off y)) :: st.hp })
          | none => none) none
      | _ => none
    | none, .ep id _ i off, .w y => match get st.hp id with
      | some (.rows (k + 1) r) => match y with
        | .ag ys => match vals ys with
          | some vs => cond (isStruct P t && Nat.beq off 0 && Nat.beq t (RowT.ty r)) (match RowT.set r i vs with
            | some r' => some ([], { st with hp := (id, .rows (k + 1) r') :: st.hp })
            | none => none) none
          | none => none
        | .c y => match y.val with
          | some v => cond (isOne P t) (match nth (RowT.elt r i) off with
            | some _ => match RowT.set r i (setAt (RowT.elt r i) off v) with
              | some r' => some ([], { st with hp := (id, .rows (k + 1) r') :: st.hp })
              | none => none
            | none => none) none
          | none => none
      | _ => none
    | _, _, _ => none
  | .nilCheck x => match ev st x with
    | .pt id off => match get st.hp id with
      | some (.box _ _) => ok (st.put o.dst (.pt id off))
      | _ => none
    | _ => none
  | .binOp op t x y _ => match binV (isBool P t) op (ev st x) (ev st y) with
    | some (ts, c) => match st.put o.dst (.w (.c c)) with
      | some st' => some (ts, st')
      | none => none
    | none => none
  | .unOp op _ x => match unV op (ev st x) with
    | some c => ok (st.put o.dst (.w (.c c)))
    | none => none
  | .convert s d x => match ev st x, P.underlying s, P.underlying d with
    | .w (.c (.sc (.i _ n))), some (.int _), some (.int k) => ok (st.put o.dst (.w (.c (.sc (.i k (wr k n))))))
    | _, _, _ => none
  | .makeSlice t l c => match P.underlying t, ev st l, ev st c with
    | some (.slice e), .w (.c (.sc (.i .i64 n))), .w (.c (.sc (.i .i64 m))) => match (RowT.zer e n.toNat : Option R), P.info? e with
      | some r, some i => match newRows st o.dst r with
        | some st' => some ([⟨n = m, inferInstance⟩, ⟨0 ≤ n, inferInstance⟩, ⟨n < (limM i.bytes : Nat), inferInstance⟩], st')
        | none => none
      | _, _ => none
    | _, _, _ => none
  | .fieldAddr s x f => match P.underlying s, ev st x with
    | some (.struct fs), .pt id off => match offOf P fs.toList f, get st.hp id with
      | some k, some (.box _ _) => cond (Nat.beq off 0) (ok (st.put o.dst (.pt id k))) none
      | _, _ => none
    | some (.struct fs), .ep id sz i off => match offOf P fs.toList f, get st.hp id with
      | some k, some (.rows _ _) => cond (Nat.beq off 0) (ok (st.put o.dst (.ep id sz i k))) none
      | _, _ => none
    | _, _ => none
  | .indexAddr t x i => match P.underlying t, ev st x, ev st i with
    | some (.slice e), .w (.c (.rw id)), .w (.c (.sc (.i _ n))) => match get st.hp id, P.info? e with
      | some (.rows _ r), some inf => cond (Nat.beq e (RowT.ty r)) (match st.put o.dst (.ep id inf.size n.toNat 0) with
        | some st' => some ([⟨0 ≤ n, inferInstance⟩, ⟨n < (RowT.len r : Nat), inferInstance⟩], st')
        | none => none) none
      | _, _ => none
    | _, _, _ => none
  | .extract x k => match ev st x with
    | .tu ws => match nth ws k with
      | some y => ok (st.put o.dst (.w y))
      | none => none
    | _ => none
  | .call c => match c.callee with
    | .builtin .len => match c.args.toList, c.argTypes.toList with
      | [x], [t] => match ev st x, P.underlying t with
        | .w (.c (.rw id)), some (.slice _) => match get st.hp id with
          | some (.rows _ r) => ok (st.put o.dst (.w (.c (.sc (.i .i64 (RowT.len r : Nat))))))
          | _ => none
        | _, _ => none
      | _, _ => none
    | .builtin .min => match c.args.toList with
      | [x, y] => match ev st x, ev st y with
        | .w (.c (.sc (.i k a))), .w (.c (.sc (.i k' b))) => if k = k' then ok (st.put o.dst (.w (.c (.sc (.i k (if b < a then b else a)))))) else none
        | _, _ => none
      | _ => none
    | .builtin .append => match c.args.toList, c.argTypes.toList with
      | [x, y], [t, u] => match ev st x, ev st y, P.underlying t with
        | .w (.c (.rw id)), .w (.c (.rw jd)), some (.slice e) => cond (Nat.beq t u && !Nat.beq id jd) (match get st.hp id, get st.hp jd, P.info? e with
          | some (.rows 2 r), some (.rows _ s), some inf => match cond (Nat.beq e (RowT.ty r)) (RowT.app r s) none with
            | some r' => match ({ st with nx := st.nx + 1, hp := (st.nx, .rows 2 r') :: (id, .dead) :: st.hp } : St R).put o.dst (.w (.c (.rw st.nx))) with
              | some st' => some ([⟨RowT.len r + RowT.len s < lim inf.bytes, inferInstance⟩], st')
              | none => none
            | none => none
          | _, _, _ => none) none
        | _, _, _ => none
      | _, _ => none
    | _ => none
  | _ => none
abbrev Mean (R : Type) := Nat → List V → List (Blk R) → (Z : Type) → (Out R → Option Z) → Option Z
def packC : List C → Nat → Option (List C × List Nat)
  | [], _ => some ([], [])
  | .rw id :: r, n => match packC r (n + 1) with
    | some (cs, ids) => some (.rw n :: cs, id :: ids)
    | none => none
  | c :: r, n => match c.val, packC r n with
    | some v, some (cs, ids) => some (.sc v :: cs, ids)
    | _, _ => none
def lend (lent : Bool) : Blk R → Option (Blk R)
  | .rows k r => cond lent (match k with
    | 0 => none
    | _ => some (.rows 1 r)) (some (.rows 0 r))
  | _ => none
def lendAll (st : St R) (lent : Bool) : List Nat → Option (List (Blk R))
  | [] => some []
  | id :: r => match get st.hp id with
    | some b => match lend lent b, lendAll st lent r with
      | some b', some bs => some (b' :: bs)
      | _, _ => none
    | none => none
def packV (st : St R) (lent : Bool) (v : V) (n : Nat) : Option (V × List (Blk R) × List Nat) :=
  match v with
  | .w (.c x) => match packC [x] n with
    | some ([y], ids) => match lendAll st lent ids with
      | some bs => some (.w (.c y), bs, ids)
      | none => none
    | _ => none
  | .w (.ag xs) => match packC xs n with
    | some (ys, ids) => match lendAll st lent ids with
      | some bs => some (.w (.ag ys), bs, ids)
      | none => none
    | none => none
  | .pt id 0 => match get st.hp id with
    | some (.box t cs) => match packC cs (n + 1) with
      | some (ys, ids) => match lendAll st false ids with
        | some bs => some (.pt n 0, .box t ys :: bs, id :: ids)
        | none => none
      | none => none
    | _ => none
  | _ => none
def pack (st : St R) (lent : Bool) : List Operand → Nat → Option (List V × List (Blk R) × List Nat)
  | [], _ => some ([], [], [])
  | x :: r, n => match packV st lent (ev st x) n with
    | some (v, bs, ids) => match pack st lent r (n + ids.length) with
      | some (vs, bs', ids') => some (v :: vs, bs ++ bs', ids ++ ids')
      | none => none
    | none => none
def nodup : List Nat → Bool
  | [] => true
  | x :: r => !(r.any (Nat.beq x)) && nodup r
def back (src : List Nat) (nx : Nat) (id : Nat) : Nat := match nth src id with
  | some j => j
  | none => nx + (id - src.length)
def backC (src : List Nat) (nx : Nat) : C → C
  | .rw id => .rw (back src nx id)
  | c => c
def backW (src : List Nat) (nx : Nat) : W → W
  | .c x => .c (backC src nx x)
  | .ag xs => .ag (xs.map (backC src nx))
def absorbH (src : List Nat) (nx : Nat) : List (Blk R) → List (Blk R) → Nat → List (Nat × Blk R) → Option (List (Nat × Blk R))
  | [], _, _, hp => some hp
  | b :: bs, olds, n, hp =>
    match olds, b with
    | .rows 0 _ :: olds, .rows 0 _ => absorbH src nx bs olds (n + 1) hp
    | .rows 1 _ :: olds, .rows 1 r => match get hp (back src nx n) with
      | some (.rows k _) => absorbH src nx bs olds (n + 1) ((back src nx n, .rows k r) :: hp)
      | _ => none
    | .box t _ :: olds, .box _ cs => absorbH src nx bs olds (n + 1) ((back src nx n, .box t (cs.map (backC src nx))) :: hp)
    | [], .rows 2 r => absorbH src nx bs [] (n + 1) ((back src nx n, .rows 2 r) :: hp)
    | _, _ => none
def resV (src : List Nat) (nx : Nat) : List W → V
  | [y] => .w (backW src nx y)
  | ys => .tu (ys.map (backW src nx))
def absorb (st : St R) (src : List Nat) (bs : List (Blk R)) (d : Option Nat) (out : Out R) : Option (St R) :=
  match absorbH src st.nx out.hp bs 0 st.hp with
  | some hp => ({ st with nx := st.nx + (out.hp.length - src.length), hp := hp } : St R).put d (resV src st.nx out.res)
  | none => none
def quietOp : Op → Bool
  | .move x => match x with
    | .const (.slice _ _ _) => false
    | _ => true
  | .assign x => match x with
    | .const (.slice _ _ _) => false
    | _ => true
  | .pick _ _ _ => true
  | .load _ _ => true
  | .nilCheck _ => true
  | .binOp _ _ _ _ _ => true
  | .unOp _ _ _ => true
  | .convert _ _ _ => true
  | .fieldAddr _ _ _ => true
  | .indexAddr _ _ _ => true
  | .extract _ _ => true
  | .call c => match c.callee with
    | .builtin .len => true
    | .builtin .min => true
    | _ => false
  | _ => false
def idOf : V → List Nat
  | .pt id _ => [id]
  | .ep id _ _ _ => [id]
  | .w (.c (.rw id)) => [id]
  | _ => []
def loads (st : St R) (o : Oper) : List Nat := match o.op with
  | .load _ x => idOf (ev st x)
  | _ => []
def writes (st : St R) (o : Oper) : List Nat := match o.op with
  | .store _ x _ => idOf (ev st x)
  | .call c => match c.callee with
    | .builtin .append => match c.args.toList with
      | x :: _ => idOf (ev st x)
      | _ => []
    | _ => []
  | _ => []
def callOf (o : Oper) : Option (FuncId × List Operand) := match o.op with
  | .call c => match c.callee with
    | .value (.func f) => some (f, c.args.toList)
    | _ => none
  | _ => none
structure Cal (R : Type) where
  f : FuncId
  lent : Bool
  sem : Mean R
def find : List (Cal R) → FuncId → Option (Cal R)
  | [], _ => none
  | o :: r, f => cond (Nat.beq o.f f) (some o) (find r f)
def tests {Z : Type} : List Tst → Option Z → Option Z
  | [], z => z
  | t :: r, z => @ite _ t.p t.i (tests r z) none
def part {Z : Type} (st : St R) (t : Nat) (F : Bool → St R → Option Z) : Option Z :=
  match st.v t with
  | .w (.c (.kb true)) => F true st
  | .w (.c (.kb false)) => F false st
  | .w (.c (.bo p i)) => @ite _ p i (F true (st.know t true)) (F false (st.know t false))
  | .w (.c (.nb p i)) => @ite _ p i (F false (st.know t false)) (F true (st.know t true))
  | .w (.c (.sc (.b b))) => if b = true then F true (st.know t true) else F false (st.know t false)
  | _ => none
def isRo : Blk R → Bool
  | .rows 0 _ => true
  | _ => false
def callW (bs : List (Blk R)) (src : List Nat) : List Nat := cond (bs.all isRo) [] src
def subset (l m : List Nat) : Bool := l.all fun x => m.any (Nat.beq x)
def within (lim : Option (List Nat)) (l : List Nat) : Bool := match lim with
  | none => true
  | some d => subset l d
def rowStore (P : Program) (o : Oper) (st : St R) : Option (Nat × Nat × R × Nat × List Sc) :=
  match o.op with
  | .store t a x => match o.dst, ev st a, ev st x with
    | none, .ep id _ i off, .w y => match get st.hp id with
      | some (.rows (k + 1) r) => match y with
        | .ag ys => match vals ys with
          | some vs => cond (isStruct P t && Nat.beq off 0 && Nat.beq t (RowT.ty r)) (some (id, k + 1, r, i, vs)) none
          | none => none
        | .c y => match y.val with
          | some v => cond (isOne P t) (match nth (RowT.elt r i) off with
            | some _ => some (id, k + 1, r, i, setAt (RowT.elt r i) off v)
            | none => none) none
          | none => none
      | _ => none
    | _, _, _ => none
  | _ => none
def eop {Z : Type} (P : Program) (O : List (Cal R)) (k : Nat) (lim : Option (List Nat)) (o : Oper) (st : St R) (K : St R → Option Z) : Option Z :=
  match callOf o with
  | some (f, xs) => match find O f with
    | some c => match pack st c.lent xs 0 with
      | some (vs, bs, src) => cond (nodup src && within lim (callW bs src)) (c.sem k vs bs Z fun out => match absorb st src bs o.dst out with
        | some st' => K st'
        | none => none) none
      | none => none
    | none => none
  | none => cond (within lim (writes st o)) (match rowStore P o st with
    | some (id, k, r, i, vs) => RowT.setK r i vs Z fun r' => K { st with hp := (id, .rows k r') :: st.hp }
    | none => match pop P o st with
      | some (ts, st') => tests ts (K st')
      | none => none) none
def guarded {Z : Type} (ops : List Oper) (o : Oper) (st : St R) (run pass : St R → Option Z) : Option Z :=
  match o.guard with
  | none => run st
  | some (j, want) => match (nth ops j).bind (·.dst) with
    | some t => match st.v t with
      | .un => pass st
      | _ => part st t fun b st' => cond (b == want) (run st') (pass st')
    | none => none
def passed {Z : Type} (o : Oper) (st : St R) (K : St R → Option Z) : Option Z := match st.put o.dst .un with
  | some st' => K st'
  | none => none
def eops {Z : Type} (P : Program) (O : List (Cal R)) (k : Nat) (ops : List Oper) : List Oper → St R → (St R → Option Z) → Option Z
  | [], st, K => K st
  | o :: rest, st, K => guarded ops o st (fun st' => eop P O k none o st' fun st'' => eops P O k ops rest st'' K) (fun st' => passed o st' fun st'' => eops P O k ops rest st'' K)
def firstQ (ops : Array Oper) (listed : Array Bool) : List Nat → Option Nat
  | [] => none
  | i :: r => cond ((match ops[i]? with
    | some o => quietOp o.op
    | none => false) && Region.free .any ops listed i) (some i) (firstQ ops listed r)
def mkPlan (ops : Array Oper) : Nat → Array Bool → Option (List Nat)
  | 0, listed => match Region.ready .any ops listed with
    | [] => some []
    | _ => none
  | f + 1, listed => match Region.ready .any ops listed with
    | [] => some []
    | i :: r => match firstQ ops listed (i :: r) with
      | some j => match mkPlan ops f (listed.setIfInBounds j true) with
        | some l => some (j :: l)
        | none => none
      | none => match r with
        | [] => match mkPlan ops f (listed.setIfInBounds i true) with
          | some l => some (i :: l)
          | none => none
        | _ => none
def plan (ops : Array Oper) : Option (List Nat) := cond (Region.noSelect ops) (mkPlan ops ops.size (Array.replicate ops.size false)) none
def dirty (st : St R) : List Oper → List Nat
  | [] => []
  | o :: r => match o.op with
    | .store _ x _ => match ev st x with
      | .pt id _ => match get st.hp id with
        | some (.box _ _) => id :: dirty st r
        | _ => dirty st r
      | _ => dirty st r
    | _ => dirty st r
def okLoad (d : List Nat) (n0 : Nat) (st : St R) (o : Oper) : Bool := (loads st o).all fun id => Nat.blt id n0 && !(d.any (Nat.beq id))
def eopsD {Z : Type} (P : Program) (O : List (Cal R)) (k : Nat) (ops : List Oper) (d : List Nat) (n0 : Nat) : List Nat → St R → (St R → Option Z) → Option Z
  | [], st, K => K st
  | i :: rest, st, K => match nth ops i with
    | some o => guarded ops o st (fun st' => cond (!quietOp o.op || okLoad d n0 st' o) (eop P O k (some d) o st' fun st'' => eopsD P O k ops d n0 rest st'' K) none) (fun st' => passed o st' fun st'' => eopsD P O k ops d n0 rest st'' K)
    | none => none
def eregion {Z : Type} (P : Program) (O : List (Cal R)) (k : Nat) (ops : Array Oper) (draw : Bool) (st : St R) (K : St R → Option Z) : Option Z :=
  cond draw (match plan ops with
    | some l => eopsD P O k ops.toList (dirty st ops.toList) st.nx l st K
    | none => none) (eops P O k ops.toList ops.toList st K)
inductive Ex where
  | normal
  | exit (id : Nat)
  | ret
def idsC : C → List Nat
  | .rw id => [id]
  | _ => []
def idsW : W → List Nat
  | .c x => idsC x
  | .ag xs => xs.flatMap idsC
def idsV : V → List Nat
  | .w y => idsW y
  | .tu ws => ws.flatMap idsW
  | .pt id _ => [id]
  | .ep id _ _ _ => [id]
  | _ => []
def addIds : List Nat → List Nat → List Nat
  | acc, [] => acc
  | acc, x :: r => addIds (cond (acc.any (Nat.beq x)) acc (acc ++ [x])) r
def boxIds (st : St R) (id : Nat) : List Nat := match get st.hp id with
  | some (.box _ cs) => cs.flatMap idsC
  | _ => []
def idx : List Nat → Nat → Nat → Option Nat
  | [], _, _ => none
  | x :: r, n, i => cond (Nat.beq x n) (some i) (idx r n (i + 1))
def fixC : C → C
  | .kb b => .sc (.b b)
  | .bo p i => .sc (.b (@decide p i))
  | .nb p i => .sc (.b (!@decide p i))
  | c => c
def toC (l : List Nat) : C → Option C
  | .rw id => (idx l id 0).map .rw
  | c => some (fixC c)
def toCs (l : List Nat) : List C → Option (List C)
  | [] => some []
  | c :: r => match toC l c, toCs l r with
    | some c, some r => some (c :: r)
    | _, _ => none
def toW (l : List Nat) : W → Option W
  | .c x => (toC l x).map .c
  | .ag xs => (toCs l xs).map .ag
def toV (l : List Nat) : V → Option V
  | .w y => (toW l y).map .w
  | .pt id off => (idx l id 0).map fun j => .pt j off
  | .no => some .no
  | _ => none
def toTm (l : List Nat) (st : St R) : List Nat → Option (List (Nat × V))
  | [] => some []
  | t :: r => match toV l (st.v t), toTm l st r with
    | some v, some tm => some ((t, v) :: tm)
    | _, _ => none
def toBlk (l : List Nat) : Blk R → Option (Blk R)
  | .rows k r => some (.rows k r)
  | .box t cs => (toCs l cs).map (.box t)
  | .dead => none
def toHp (l : List Nat) (st : St R) : List Nat → Nat → Option (List (Nat × Blk R))
  | [], _ => some []
  | id :: r, n => match get st.hp id with
    | some b => match toBlk l b, toHp l st r (n + 1) with
      | some b', some hp => some ((n, b') :: hp)
      | _, _ => none
    | none => none
def firsts : List Nat → Nat → Nat → Bool
  | _, _, 0 => true
  | [], _, _ + 1 => false
  | x :: r, i, n + 1 => Nat.beq x i && firsts r (i + 1) n
def named (l : List Nat) (na : Nat) : Bool := nodup l && firsts l 0 na
def canon (live : List Nat) (st : St R) : Option (St R) :=
  let l0 := live.foldl (fun l t => addIds l (idsV (st.v t))) (List.range st.na)
  let l := l0.foldl (fun l id => addIds l (boxIds st id)) l0
  cond (named l st.na) (match toTm l st live, toHp l st l 0 with
    | some tm, some hp => some { nt := st.nt, na := st.na, nx := l.length, tm := tm, hp := hp }
    | _, _ => none) none
def results1 (P : Program) (st : St R) : ResultVar → Option W
  | .tmp t => match st.v t with
    | .w y => some y
    | _ => none
  | .cell t ty => match st.v t with
    | .pt id 0 => match get st.hp id with
      | some (.box t' cs) => cond (isStruct P ty && Nat.beq ty t' && Nat.beq (P.cellsOf ty) cs.length) (some (.ag cs)) none
      | _ => none
    | _ => none
def resultsAll (P : Program) (st : St R) : List ResultVar → Option (List W)
  | [] => some []
  | r :: rs => match results1 P st r, resultsAll P st rs with
    | some y, some ys => some (y :: ys)
    | _, _ => none
def toWs (l : List Nat) : List W → Option (List W)
  | [] => some []
  | y :: r => match toW l y, toWs l r with
    | some y, some r => some (y :: r)
    | _, _ => none
def allOwn : List (Nat × Blk R) → Nat → Bool
  | [], _ => true
  | (i, b) :: r, na => (Nat.blt i na || match b with
    | .rows 2 _ => true
    | _ => false) && allOwn r na
def vals2 : List (Nat × Blk R) → List (Blk R)
  | [] => []
  | (_, b) :: r => b :: vals2 r
def finish (P : Program) (rs : List ResultVar) (st : St R) : Option (Out R) :=
  match resultsAll P st rs with
  | some ys =>
    let l1 := (List.range st.na).foldl (fun l id => addIds l (boxIds st id)) (List.range st.na)
    let l := ys.foldl (fun l y => addIds l (idsW y)) l1
    match toWs l ys, toHp l st l 0 with
    | some ws, some hp => cond (named l st.na && allOwn hp st.na) (some { res := ws, hp := vals2 hp }) none
    | _, _ => none
  | none => none
structure Cut (R : Type) where
  p : List Bool
  live : List Nat
  f : Nat → St R → Option (Out R)
def eqP : List Bool → List Bool → Bool
  | [], [] => true
  | x :: a, y :: b => x == y && eqP a b
  | _, _ => false
def cutAt : List (Cut R) → List Bool → Option (Cut R)
  | [], _ => none
  | c :: r, p => cond (eqP c.p p) (some c) (cutAt r p)
def stop (k : Nat) (c : Cut R) (st : St R) : Option (Out R) := match canon c.live st with
  | some st' => c.f k st'
  | none => none
def ecode (P : Program) (O : List (Cal R)) (cs : List (Cut R)) (k : Nat) : Code → List Bool → St R → (Ex → St R → Option (Out R)) → Option (Out R)
  | .skip, _, st, K => K .normal st
  | .region _ ops draw, _, st, K => eregion P O k ops draw st fun st' => K .normal st'
  | .seq a b, p, st, K => match cutAt cs p with
    | some c => stop k c st
    | none => ecode P O cs k a (false :: p) st fun e st' => match e with
      | .normal => ecode P O cs k b (true :: p) st' K
      | e => K e st'
  | .cond c a b, p, st, K => match c with
    | .tmp t => match cutAt cs p with
      | some c => stop k c st
      | none => part st t fun x st' => cond x (ecode P O cs k a (false :: p) st' K) (ecode P O cs k b (true :: p) st' K)
    | _ => none
  | .block id a, p, st, K => ecode P O cs k a (false :: p) st fun e st' => match e with
    | .exit j => cond (Nat.beq j id) (K .normal st') (K (.exit j) st')
    | e => K e st'
  | .loop _, p, st, _ => match cutAt cs p with
    | some c => stop k c st
    | none => none
  | .exit id, _, st, K => K (.exit id) st
  | .ret, _, st, K => K .ret st
  | _, _, _, _ => none
def sub (c : Code) : List Bool → Option Code
  | [] => some c
  | d :: p => match sub c p with
    | some (.seq a b) => some (cond d b a)
    | some (.cond _ a b) => some (cond d b a)
    | some (.block _ a) => some a
    | some (.loop a) => some a
    | _ => none
def kr (P : Program) (O : List (Cal R)) (cs : List (Cut R)) (k : Nat) (c : Code) (K0 : Ex → St R → Option (Out R)) : List Bool → Ex → St R → Option (Out R)
  | [] => K0
  | d :: p => match sub c p with
    | some (.seq _ b) => cond d (kr P O cs k c K0 p) fun e st => match e with
      | .normal => ecode P O cs k b (true :: p) st (kr P O cs k c K0 p)
      | e => kr P O cs k c K0 p e st
    | some (.cond _ _ _) => kr P O cs k c K0 p
    | some (.block id _) => fun e st => match e with
      | .exit j => cond (Nat.beq j id) (kr P O cs k c K0 p .normal st) (kr P O cs k c K0 p (.exit j) st)
      | e => kr P O cs k c K0 p e st
    | some (.loop _) => fun e st => match e with
      | .normal => match cutAt cs p with
        | some c => stop k c st
        | none => none
      | e => kr P O cs k c K0 p e st
    | _ => fun _ _ => none
def kEnd (P : Program) (rs : List ResultVar) (e : Ex) (st : St R) : Option (Out R) := match e with
  | .exit _ => none
  | _ => finish P rs st
def seg (P : Program) (O : List (Cal R)) (cs : List (Cut R)) (k : Nat) (c : Code) (K0 : Ex → St R → Option (Out R)) (p : List Bool) (st : St R) : Option (Out R) :=
  match sub c p with
  | some (.loop a) => ecode P O cs k a (false :: p) st (kr P O cs k c K0 (false :: p))
  | some (.cond (.tmp t) a b) => part st t fun x st' => cond x (ecode P O cs k a (false :: p) st' (kr P O cs k c K0 p)) (ecode P O cs k b (true :: p) st' (kr P O cs k c K0 p))
  | some (.seq a b) => ecode P O cs k a (false :: p) st fun e st' => match e with
    | .normal => ecode P O cs k b (true :: p) st' (kr P O cs k c K0 p)
    | e => kr P O cs k c K0 p e st'
  | _ => none
def number {α : Type} : List α → Nat → List (Nat × α)
  | [], _ => []
  | x :: r, n => (n, x) :: number r (n + 1)
def start (nt : Nat) (args : List V) (hp : List (Blk R)) : St R := { nt := nt, na := hp.length, nx := hp.length, tm := number args 0, hp := number hp 0 }
def enter (P : Program) (O : List (Cal R)) (cs : List (Cut R)) (k : Nat) (fn : Func) (c : Code) (args : List V) (hp : List (Blk R)) : Option (Out R) :=
  cond (Nat.ble args.length fn.ntmps) (ecode P O cs k c [] (start fn.ntmps args hp) (kEnd P fn.results.toList)) none
end
end Go.Proofs.YtmfgajbkcnlkcaaGreat.AI
namespace Go.Proofs.YtmfgajbkcnlkcaaGreat.AI
set_option linter.all false
open Go Go.RowKit
section
variable {R : Type} [RowT R]
def flat (r : R) : List Value := (RowT.cel r).flatten.map Sc.v
class RowL (P : Program) (R : Type) [RowT R] : Prop where
  len_eq : ∀ r : R, RowT.len r = (RowT.cel r).length
  elt_eq : ∀ (r : R) (i : Nat), i < RowT.len r → (RowT.cel r)[i]? = some (RowT.elt r i)
  nil_eq : ∀ (t : TypeId) (r : R), RowT.nil t = some r → RowT.cel r = [] ∧ RowT.ty r = t
  zer_eq : ∀ (t : TypeId) (n : Nat) (r : R), RowT.zer t n = some r → RowT.ty r = t ∧ ∃ i z cs, P.info? t = some i ∧ i.zero = some z ∧ z.cells.toList = List.map Sc.v cs ∧ RowT.cel r = List.replicate n cs
  snoc_eq : ∀ (r r' : R) (c : List Sc), RowT.snoc r c = some r' → RowT.cel r' = RowT.cel r ++ [c] ∧ RowT.ty r' = RowT.ty r
  app_eq : ∀ (r s r' : R), RowT.app r s = some r' → RowT.cel r' = RowT.cel r ++ RowT.cel s ∧ RowT.ty r' = RowT.ty r ∧ RowT.ty s = RowT.ty r
  setK_eq : ∀ (r : R) (i : Nat) (c : List Sc) (Z : Type) (K : R → Option Z) (z : Z), RowT.setK r i c Z K = some z → ∃ r', RowT.set r i c = some r' ∧ K r' = some z
  set_eq : ∀ (r r' : R) (i : Nat) (c : List Sc), RowT.set r i c = some r' → RowT.cel r' = (RowT.cel r).set i c ∧ RowT.ty r' = RowT.ty r
  info : ∀ r : R, ∃ i z, P.info? (RowT.ty r) = some i ∧ i.zero = some z ∧ z.cells.size = i.size ∧ 0 < i.size ∧ 0 < i.bytes ∧ ∀ c ∈ RowT.cel r, c.length = i.size
def conc (g : Nat → Value) : C → Value
  | .sc v => v.v
  | .kb b => .bool b
  | .bo p i => .bool (@decide p i)
  | .nb p i => .bool (!@decide p i)
  | .rw id => g id
def concW (g : Nat → Value) : W → Value
  | .c x => conc g x
  | .ag cs => .agg (cs.map (conc g)).toArray
def concV (g : Nat → Value) : V → Value
  | .w y => concW g y
  | .tu ws => .tuple (ws.map (concW g)).toArray
  | .pt id off => match g id with
    | .pointer (some a) => .pointer (some ⟨a.block, off, none⟩)
    | v => v
  | .ep id sz i off => match g id with
    | .slice (some a) _ _ => .pointer (some (a.add (i * sz + off)))
    | v => v
  | .nl => .slice none 0 0
  | .un => undef
  | .no => undef
def blkOf : Value → Option Nat
  | .slice (some a) _ _ => some a.block
  | .pointer (some a) => some a.block
  | _ => none
def BlkOK (P : Program) (g : Nat → Value) (w : World) (base : Nat) (id : Nat) : Blk R → Prop
  | .rows 0 r => ∃ A cap, g id = .slice A (RowT.len r) cap ∧ RowT.len r ≤ cap ∧ RowT.len r ≤ maxLen ∧ ∀ j u, (flat r)[j]? = some u → ∃ ad, A = some ad ∧ w.cell? (ad.add j) = some u
  | .rows (k + 1) r => w.ownsRow (if k = 1 then base else 0) (RowT.ty r) (P.cellsOf (RowT.ty r)) (g id) (RowT.len r) (flat r)
  | .box t cs => ∃ b, g id = .pointer (some ⟨b, 0, none⟩) ∧ w.heap[b]? = some (.cells (cs.map (conc g)).toArray t (0, 0)) ∧ ∀ c ∈ cs, (conc g c).oneCell' = true
  | .dead => True
def HasB (g : Nat → Value) (id : Nat) (n : Nat) : Blk R → Prop
  | .rows 0 r => blkOf (g id) = some n ∧ 0 < RowT.len r
  | .dead => False
  | _ => blkOf (g id) = some n
def Blk.mut : Blk R → Prop
  | .rows 0 _ => False
  | .dead => False
  | _ => True
def idsB : Blk R → List Nat
  | .box _ cs => cs.flatMap idsC
  | _ => []
structure Fr (w0 : World) (L : Nat → Prop) (w : World) : Prop where
  os : w.os = w0.os
  tape : w.tape = w0.tape
  output : w.output = w0.output
  size : w0.heap.size ≤ w.heap.size
  block : ∀ k, k < w0.heap.size → ¬ L k → w.heap[k]? = w0.heap[k]?
structure HOK (P : Program) (w0 : World) (L : Nat → Prop) (nx : Nat) (hp : List (Nat × Blk R)) (g : Nat → Value) (w : World) : Prop where
  idB : ∀ id b, get hp id = some b → ∀ j ∈ idsB b, j < nx
  idH : ∀ id b, get hp id = some b → id < nx
  blk : ∀ id b, get hp id = some b → BlkOK P g w w0.heap.size id b
  sep : ∀ id b id' b' n, get hp id = some b → get hp id' = some b' → id ≠ id' → b.mut → HasB g id n b → ¬ HasB g id' n b'
  mutL : ∀ id b n, get hp id = some b → b.mut → HasB g id n b → w0.heap.size ≤ n ∨ L n
  one : ∀ id, id < nx → (g id).oneCell' = true
  frame : Fr w0 L w
theorem get_cons' {α : Type} (k : Nat) (v : α) (r : List (Nat × α)) (n : Nat) : get ((k, v) :: r) n = if k = n then some v else get r n := by
  simp only [get]
  by_cases h : k = n
  · subst h; simp
  · have : Nat.beq k n = false := by
      cases hb : Nat.beq k n
      · rfl
      · exact absurd (Nat.eq_of_beq_eq_true hb) h
    rw [if_neg h, this]; rfl
def EpOK (P : Program) (hp : List (Nat × Blk R)) : V → Prop
  | .ep id sz i _ => ∀ k r, get hp id = some (.rows k r) → i < RowT.len r ∧ sz = P.cellsOf (RowT.ty r)
  | _ => True
def SameKind : Blk R → Blk R → Prop
  | .rows k r, .rows k' r' => k = k' ∧ RowT.ty r = RowT.ty r'
  | .box t _, .box t' _ => t = t'
  | _, _ => False
theorem SameKind.refl {b : Blk R} (h : b ≠ .dead) : SameKind b b := by cases b <;> first | exact ⟨rfl, rfl⟩ | rfl | exact absurd rfl h
theorem SameKind.trans {a b c : Blk R} (h : SameKind a b) (k : SameKind b c) : SameKind a c := by
  cases a <;> cases b <;> first | exact h.elim | skip
  · cases c <;> first | exact k.elim | exact ⟨h.1.trans k.1, h.2.trans k.2⟩
  · cases c <;> first | exact k.elim | exact Eq.trans h k
def Blk.handed : Blk R → Prop
  | .rows 0 _ => True
  | .rows 1 _ => True
  | .box _ _ => True
  | _ => False
theorem Blk.handed.dead {b : Blk R} (h : b.handed) : b ≠ .dead := by rintro rfl; exact h
theorem Blk.handed.same {b c : Blk R} (h : b.handed) (hk : SameKind b c) : c.handed := by
  cases b with
  | rows k r =>
    cases c with
    | rows k' r' =>
      obtain ⟨rfl, _⟩ := hk
      match k, h with
      | 0, _ => trivial
      | 1, _ => trivial
    | box _ _ => exact hk.elim
    | dead => exact hk.elim
  | box t cs => cases c <;> first | exact hk.elim | trivial
  | dead => exact h.elim
def Same (nx : Nat) (hp hp' : List (Nat × Blk R)) : Prop := (∀ id k r, id < nx → get hp' id = some (.rows k r) → ∃ k0 r0, get hp id = some (.rows k0 r0) ∧ RowT.len r = RowT.len r0 ∧ RowT.ty r = RowT.ty r0) ∧
  ∀ id b, id < nx → get hp id = some b → b.handed → ∃ b', get hp' id = some b' ∧ SameKind b b'
theorem EpOK.same {P : Program} {nx : Nat} {hp hp' : List (Nat × Blk R)} {v : V} (h : EpOK P hp v) (hs : Same nx hp hp') (hi : ∀ id ∈ idsV v, id < nx) : EpOK P hp' v := by
  cases v <;> try trivial
  rename_i id sz i off
  intro k r hr
  obtain ⟨k0, r0, h1, h2, h3⟩ := hs.1 id k r (hi id (by simp [idsV])) hr
  rw [h2, h3]; exact h k0 r0 h1
theorem Same.refl (nx : Nat) (hp : List (Nat × Blk R)) : Same nx hp hp := ⟨fun _ k r _ h => ⟨k, r, h, rfl, rfl⟩, fun _ b _ h hh => ⟨b, h, SameKind.refl hh.dead⟩⟩
theorem Same.trans {nx nx' : Nat} {h0 h1 h2 : List (Nat × Blk R)} (a : Same nx h0 h1) (b : Same nx' h1 h2) (hn : nx ≤ nx') : Same nx h0 h2 := ⟨fun id k r hi hr => by
  obtain ⟨k1, r1, e1, e2, e3⟩ := b.1 id k r (by omega) hr
  obtain ⟨k0, r0, f1, f2, f3⟩ := a.1 id k1 r1 hi e1
  exact ⟨k0, r0, f1, e2.trans f2, e3.trans f3⟩, fun id c hi hc hh => by
  obtain ⟨c1, e1, e2⟩ := a.2 id c hi hc hh
  obtain ⟨c2, f1, f2⟩ := b.2 id c1 (by omega) e1 (hh.same e2)
  exact ⟨c2, f1, e2.trans f2⟩⟩
structure Inv (P : Program) (w0 : World) (L : Nat → Prop) (g0 : Nat → Value) (hp0 : List (Blk R)) (st : St R) (g : Nat → Value) (a : Act) (w : World) : Prop where
  defers : a.defers = []
  size : a.tmps.size = st.nt
  tm : ∀ t v, get st.tm t = some v → v ≠ .no → a.tmps[t]? = some (concV g v)
  idT : ∀ t v, get st.tm t = some v → ∀ id ∈ idsV v, id < st.nx
  ep : ∀ t v, get st.tm t = some v → EpOK P st.hp v
  keep : ∀ (i : Nat) b0, hp0[i]? = some b0 → ∃ b, get st.hp i = some b ∧ SameKind b0 b ∧ b.handed
  args : ∀ id, id < st.na → g id = g0 id
  na : st.na ≤ st.nx
  hpna : hp0.length = st.na
  heap : HOK P w0 L st.nx st.hp g w
theorem Same.cons {nx : Nat} {hp : List (Nat × Blk R)} {id : Nat} {b : Blk R} (h : nx ≤ id ∨ (∃ t cs cs', b = .box t cs ∧ get hp id = some (.box t cs')) ∨ (b = .dead ∧ ∃ r, get hp id = some (.rows 2 r)) ∨ ∃ k r r0, b = .rows k r ∧ get hp id = some (.rows k r0) ∧ RowT.len r = RowT.len r0 ∧ RowT.ty r = RowT.ty r0) : Same nx hp ((id, b) :: hp) := by
  constructor
  · intro i k r hi hr
    rw [get_cons'] at hr
    split at hr
    · rename_i e; subst e
      simp only [Option.some.injEq] at hr; subst hr
      rcases h with h | ⟨t, cs, cs', h, _⟩ | ⟨h, _⟩ | ⟨k1, r1, r0, e1, e2, e3, e4⟩
      · omega
      · simp at h
      · simp at h
      · injection e1 with e5 e6; subst e6; exact ⟨_, r0, e2, e3, e4⟩
    · exact ⟨k, r, hr, rfl, rfl⟩
  · intro i c hi hc hh
    rw [get_cons']
    split
    · rename_i e; subst e
      refine ⟨b, rfl, ?_⟩
      rcases h with h | ⟨t, cs, cs', rfl, h⟩ | ⟨_, r, h⟩ | ⟨k1, r1, r0, rfl, e2, e3, e4⟩
      · omega
      · rw [hc] at h; injection h with h; subst h; exact rfl
      · rw [hc] at h; injection h with h; subst h; exact hh.elim
      · rw [hc] at e2; injection e2 with e2; subst e2; exact ⟨rfl, e4.symm⟩
    · exact ⟨c, hc, SameKind.refl hh.dead⟩
theorem get_cons {α : Type} (k : Nat) (v : α) (r : List (Nat × α)) (n : Nat) : get ((k, v) :: r) n = if k = n then some v else get r n := by
  simp only [get]
  by_cases h : k = n
  · subst h; simp
  · have : Nat.beq k n = false := by
      cases hb : Nat.beq k n
      · rfl
      · exact absurd (Nat.eq_of_beq_eq_true hb) h
    rw [if_neg h, this]; rfl
theorem concC_congr {g g' : Nat → Value} {c : C} (h : ∀ id ∈ idsC c, g' id = g id) : conc g' c = conc g c := by
  cases c <;> simp only [conc]
  rename_i id; exact h id (by simp [idsC])
theorem concCs_congr {g g' : Nat → Value} {cs : List C} (h : ∀ id ∈ cs.flatMap idsC, g' id = g id) : cs.map (conc g') = cs.map (conc g) :=
  List.map_congr_left fun c hc => concC_congr fun id hid => h id (List.mem_flatMap.2 ⟨c, hc, hid⟩)
theorem concW_congr {g g' : Nat → Value} {y : W} (h : ∀ id ∈ idsW y, g' id = g id) : concW g' y = concW g y := by
  cases y with
  | c x => exact concC_congr h
  | ag cs => simp only [concW]; rw [concCs_congr h]
theorem concV_congr {g g' : Nat → Value} {v : V} (h : ∀ id ∈ idsV v, g' id = g id) : concV g' v = concV g v := by
  cases v with
  | w y => exact concW_congr h
  | tu ws => simp only [concV]; rw [List.map_congr_left fun y hy => concW_congr fun id hid => h id (List.mem_flatMap.2 ⟨y, hy, hid⟩)]
  | pt id off => simp only [concV]; rw [h id (by simp [idsV])]
  | ep id sz i off => simp only [concV]; rw [h id (by simp [idsV])]
  | nl => rfl
  | un => rfl
  | no => rfl
theorem lt_of_heap {w : World} {n : Nat} {o : Obj} (h : w.heap[n]? = some o) : n < w.heap.size := by
  rcases Nat.lt_or_ge n w.heap.size with h1 | h1
  · exact h1
  · rw [Array.getElem?_eq_none h1] at h; cases h
theorem flat_length {P : Program} [RowL P R] (r : R) : (flat r).length = RowT.len r * P.cellsOf (RowT.ty r) := by
  obtain ⟨i, z, hi, _, _, _, _, hc⟩ := RowL.info (P := P) r
  have : P.cellsOf (RowT.ty r) = i.size := by simp [Program.cellsOf, hi]
  rw [this, RowL.len_eq (P := P), flat, List.length_map, List.length_flatten]
  generalize RowT.cel r = l at hc
  induction l with
  | nil => simp
  | cons c l ih =>
    rw [List.map_cons, List.sum_cons, List.length_cons, ih (fun c' h => hc c' (List.mem_cons_of_mem _ h)), hc c (List.mem_cons_self ..), Nat.add_mul, Nat.one_mul, Nat.add_comm]
theorem flat_pos {P : Program} [RowL P R] {r : R} {j : Nat} {u : Value} (h : (flat r)[j]? = some u) : 0 < RowT.len r := by
  rcases Nat.eq_zero_or_pos (RowT.len r) with h0 | h0
  · have := flat_length (P := P) r
    rw [h0, Nat.zero_mul] at this
    rw [List.eq_nil_of_length_eq_zero this] at h
    simp at h
  · exact h0
theorem BlkOK.lt {P : Program} [RowL P R] {g : Nat → Value} {w : World} {base id n : Nat} {b : Blk R} (h : BlkOK P g w base id b) (hb : HasB g id n b) : n < w.heap.size := by
  cases b with
  | rows k r =>
    cases k with
    | zero =>
      obtain ⟨A, cap, hg, _, _, hc⟩ := h
      obtain ⟨hb1, hp⟩ := hb
      have hl := flat_length (P := P) r
      obtain ⟨i, z, hi, _, _, hs, _⟩ := RowL.info (P := P) r
      have hsz : P.cellsOf (RowT.ty r) = i.size := by simp [Program.cellsOf, hi]
      have h0 : 0 < (flat r).length := by rw [hl, hsz]; exact Nat.mul_pos hp hs
      obtain ⟨ad, hA, hcell⟩ := hc 0 _ (List.getElem?_eq_getElem h0)
      have := World.block_lt_of_cell? w _ hcell
      rw [hg, hA] at hb1
      simp only [blkOf, Option.some.injEq] at hb1
      rw [← hb1]
      simpa [Addr.add] using this
    | succ k =>
      have h1 : blkOf (g id) = some n := hb
      rcases h.2 with ⟨hv, _⟩ | ⟨b, cap, cur, hv, _, hh, _⟩
      · rw [hv] at h1; simp [blkOf] at h1
      · rw [hv] at h1; simp only [blkOf, Option.some.injEq] at h1; rw [← h1]; exact lt_of_heap hh
  | box t cs =>
    obtain ⟨b, hv, hh, _⟩ := h
    have h1 : blkOf (g id) = some n := hb
    rw [hv] at h1; simp only [blkOf, Option.some.injEq] at h1; rw [← h1]; exact lt_of_heap hh
  | dead => exact hb.elim
theorem BlkOK.move {P : Program} [RowL P R] {g : Nat → Value} {w w' : World} {base id : Nat} {b : Blk R} (h : BlkOK P g w base id b) (hm : ∀ n, HasB g id n b → w'.heap[n]? = w.heap[n]?) : BlkOK P g w' base id b := by
  cases b with
  | rows k r =>
    cases k with
    | zero =>
      obtain ⟨A, cap, hg, h1, h2, hc⟩ := h
      refine ⟨A, cap, hg, h1, h2, fun j u hu => ?_⟩
      obtain ⟨ad, hA, hcell⟩ := hc j u hu
      refine ⟨ad, hA, ?_⟩
      have hn := hm ad.block ⟨by rw [hg, hA]; rfl, flat_pos (P := P) hu⟩
      have hbk : (ad.add j).block = ad.block := by unfold Addr.add; split <;> rfl
      rw [← hcell]; exact World.cell?_of_block (by rw [hbk]; exact hn)
    | succ k =>
      obtain ⟨h1, h2⟩ := h
      refine ⟨h1, ?_⟩
      rcases h2 with h2 | ⟨b, cap, cur, hv, hb, hh, h3⟩
      · exact .inl h2
      · exact .inr ⟨b, cap, cur, hv, hb, (hm b (by show blkOf (g id) = some b; rw [hv]; rfl)).trans hh, h3⟩
  | box t cs =>
    obtain ⟨b, hv, hh, h1⟩ := h
    exact ⟨b, hv, (hm b (by show blkOf (g id) = some b; rw [hv]; rfl)).trans hh, h1⟩
  | dead => trivial
theorem BlkOK.name {P : Program} {g g' : Nat → Value} {w : World} {base id : Nat} {b : Blk R} (h : BlkOK P g w base id b) (h0 : g' id = g id) (hm : ∀ j ∈ idsB b, g' j = g j) : BlkOK P g' w base id b := by
  cases b with
  | rows k r => cases k <;> simpa only [BlkOK, h0] using h
  | box t cs =>
    obtain ⟨b, hv, hh, h1⟩ := h
    refine ⟨b, h0.trans hv, by rw [concCs_congr hm]; exact hh, fun c hc => ?_⟩
    rw [concC_congr fun id hid => hm id (List.mem_flatMap.2 ⟨c, hc, hid⟩)]; exact h1 c hc
  | dead => trivial
theorem HasB.name {g g' : Nat → Value} {id n : Nat} {b : Blk R} (h0 : g' id = g id) : HasB g' id n b ↔ HasB g id n b := by
  cases b with
  | rows k r => cases k <;> simp only [HasB, h0]
  | box t cs => simp only [HasB, h0]
  | dead => exact Iff.rfl
theorem Fr.grown {w0 w w' : World} {L : Nat → Prop} {row : Option Nat} (h : Fr w0 L w) (hg : w.grownBy w' row) (hr : ∀ n, row = some n → w0.heap.size ≤ n ∨ L n) : Fr w0 L w' :=
  ⟨hg.os.trans h.os, hg.tape.trans h.tape, hg.output.trans h.output, Nat.le_trans h.size hg.size, fun k hk hl =>
    (hg.block k (Nat.lt_of_lt_of_le hk h.size) (fun e => by rcases hr k e.symm with h1 | h1; exact absurd hk (Nat.not_lt.2 h1); exact hl h1)).trans (h.block k hk hl)⟩
def upd (g : Nat → Value) (n : Nat) (v : Value) (id : Nat) : Value := if id = n then v else g id
theorem upd_same (g : Nat → Value) (n : Nat) (v : Value) : upd g n v n = v := by simp [upd]
theorem upd_other (g : Nat → Value) {n id : Nat} (v : Value) (h : id ≠ n) : upd g n v id = g id := by simp [upd, h]
section
variable {P : Program} [RowL P R] {w0 : World} {L : Nat → Prop} {g0 : Nat → Value} {hp0 : List (Blk R)} {nx : Nat} {hp : List (Nat × Blk R)} {g : Nat → Value} {w : World}
theorem HOK.lt (h : HOK P w0 L nx hp g w) {id n : Nat} {b : Blk R} (hb : get hp id = some b) (hn : HasB g id n b) : n < w.heap.size := (h.blk id b hb).lt hn
theorem HOK.drop (h : HOK P w0 L nx hp g w) {id : Nat} {b0 : Blk R} (hid : get hp id = some b0) : HOK P w0 L nx ((id, .dead) :: hp) g w := by
  have hx : ∀ i b, get ((id, .dead) :: hp) i = some b → b = .dead ∧ i = id ∨ get hp i = some b := by
    intro i b hb
    rw [get_cons] at hb
    split at hb
    · rename_i e; simp only [Option.some.injEq] at hb; exact .inl ⟨hb.symm, e.symm⟩
    · exact .inr hb
  refine ⟨fun i b hb j hj => ?_, fun i b hb => ?_, fun i b hb => ?_, fun i b i' b' n hb hb' hne hm hn => ?_, fun i b n hb hm hn => ?_, h.one, h.frame⟩
  · rcases hx i b hb with ⟨rfl, _⟩ | h1
    · simp [idsB] at hj
    · exact h.idB i b h1 j hj
  · rcases hx i b hb with ⟨_, rfl⟩ | h1
    · exact h.idH _ _ hid
    · exact h.idH i b h1
  · rcases hx i b hb with ⟨rfl, _⟩ | h1
    · trivial
    · exact h.blk i b h1
  · rcases hx i b hb with ⟨rfl, _⟩ | h1
    · exact hn.elim
    · rcases hx i' b' hb' with ⟨rfl, _⟩ | h2
      · exact fun h => h
      · exact h.sep i b i' b' n h1 h2 hne hm hn
  · rcases hx i b hb with ⟨rfl, _⟩ | h1
    · exact hn.elim
    · exact h.mutL i b n h1 hm hn
theorem HOK.add (h : HOK P w0 L nx hp g w) {b : Blk R} {v : Value} {w' : World} {row : Option Nat} (hg : w.grownBy w' row)
    (hrow : ∀ n, row = some n → (w0.heap.size ≤ n ∨ L n) ∧ ∀ id b', get hp id = some b' → ¬ HasB g id n b') (hids : ∀ j ∈ idsB b, j < nx)
    (hb : BlkOK P (upd g nx v) w' w0.heap.size nx b) (hn : ∀ n, HasB (upd g nx v) nx n b → w.heap.size ≤ n ∨ row = some n) (ho : v.oneCell' = true) : HOK P w0 L (nx + 1) ((nx, b) :: hp) (upd g nx v) w' := by
  have hx : ∀ i c, get ((nx, b) :: hp) i = some c → c = b ∧ i = nx ∨ get hp i = some c ∧ i < nx := by
    intro i c hc
    rw [get_cons] at hc
    split at hc
    · rename_i e; simp only [Option.some.injEq] at hc; exact .inl ⟨hc.symm, e.symm⟩
    · exact .inr ⟨hc, h.idH i c hc⟩
  have hu : ∀ i, i < nx → upd g nx v i = g i := fun i hi => upd_other g v (by omega)
  have hold : ∀ i c n, get hp i = some c → i < nx → HasB (upd g nx v) i n c → n < w.heap.size ∧ row ≠ some n := by
    intro i c n hc hi hh
    rw [HasB.name (hu i hi)] at hh
    exact ⟨h.lt hc hh, fun e => (hrow n e).2 i c hc hh⟩
  refine ⟨fun i c hc j hj => ?_, fun i c hc => ?_, fun i c hc => ?_, fun i c i' c' n hc hc' hne hm hh => ?_, fun i c n hc hm hh => ?_, fun i hi => ?_, h.frame.grown hg fun n e => (hrow n e).1⟩
  · rcases hx i c hc with ⟨rfl, _⟩ | ⟨h1, _⟩
    · have := hids j hj; omega
    · have := h.idB i c h1 j hj; omega
  · rcases hx i c hc with ⟨_, rfl⟩ | ⟨_, h1⟩ <;> omega
  · rcases hx i c hc with ⟨rfl, rfl⟩ | ⟨h1, h2⟩
    · exact hb
    · refine ((h.blk i c h1).name (hu i h2) fun j hj => hu j (h.idB i c h1 j hj)).move fun n hh => ?_
      obtain ⟨h3, h4⟩ := hold i c n h1 h2 hh
      exact hg.block n h3 fun e => h4 e.symm
  · rcases hx i c hc with ⟨rfl, rfl⟩ | ⟨h1, h2⟩
    · rcases hx i' c' hc' with ⟨rfl, rfl⟩ | ⟨h3, h4⟩
      · exact absurd rfl hne
      · intro hh'
        obtain ⟨h5, h6⟩ := hold i' c' n h3 h4 hh'
        rcases hn n hh with h7 | h7
        · omega
        · exact h6 h7
    · rcases hx i' c' hc' with ⟨rfl, rfl⟩ | ⟨h3, h4⟩
      · intro hh'
        obtain ⟨h5, h6⟩ := hold i c n h1 h2 hh
        rcases hn n hh' with h7 | h7
        · omega
        · exact h6 h7
      · rw [HasB.name (hu i h2)] at hh
        rw [HasB.name (hu i' h4)]
        exact h.sep i c i' c' n h1 h3 hne hm hh
  · rcases hx i c hc with ⟨rfl, rfl⟩ | ⟨h1, h2⟩
    · rcases hn n hh with h3 | h3
      · exact .inl (Nat.le_trans h.frame.size h3)
      · exact (hrow n h3).1
    · rw [HasB.name (hu i h2)] at hh
      exact h.mutL i c n h1 hm hh
  · rcases Nat.lt_or_ge i nx with h1 | h1
    · rw [hu i h1]; exact h.one i h1
    · rw [show i = nx by omega, upd_same]; exact ho
theorem HOK.turn (h : HOK P w0 L nx hp g w) {id : Nat} {b b' : Blk R} {w' : World} (hid : get hp id = some b) (hm : b.mut) (hm' : b'.mut) (hg : w.grownBy w' (blkOf (g id)))
    (hids : ∀ j ∈ idsB b', j < nx) (hb : BlkOK P g w' w0.heap.size id b') (hh : ∀ n, HasB g id n b' ↔ HasB g id n b) (hr : ∀ n, blkOf (g id) = some n → HasB g id n b) : HOK P w0 L nx ((id, b') :: hp) g w' := by
  have hx : ∀ i c, get ((id, b') :: hp) i = some c → c = b' ∧ i = id ∨ get hp i = some c ∧ i ≠ id := by
    intro i c hc
    rw [get_cons] at hc
    split at hc
    · rename_i e; simp only [Option.some.injEq] at hc; exact .inl ⟨hc.symm, e.symm⟩
    · rename_i e; exact .inr ⟨hc, fun e' => e e'.symm⟩
  refine ⟨fun i c hc j hj => ?_, fun i c hc => ?_, fun i c hc => ?_, fun i c i' c' n hc hc' hne hmc hn => ?_, fun i c n hc hmc hn => ?_, h.one, h.frame.grown hg fun n e => h.mutL id b n hid hm (hr n e)⟩
  · rcases hx i c hc with ⟨rfl, _⟩ | ⟨h1, _⟩
    · exact hids j hj
    · exact h.idB i c h1 j hj
  · rcases hx i c hc with ⟨_, rfl⟩ | ⟨h1, _⟩
    · exact h.idH _ _ hid
    · exact h.idH i c h1
  · rcases hx i c hc with ⟨rfl, rfl⟩ | ⟨h1, h2⟩
    · exact hb
    · exact (h.blk i c h1).move fun n hn => hg.block n (h.lt h1 hn) fun e => h.sep id b i c n hid h1 (fun e => h2 e.symm) hm (hr n e.symm) hn
  · rcases hx i c hc with ⟨rfl, rfl⟩ | ⟨h1, h2⟩
    · rcases hx i' c' hc' with ⟨rfl, rfl⟩ | ⟨h3, h4⟩
      · exact absurd rfl hne
      · exact h.sep i b i' c' n hid h3 hne hm ((hh n).1 hn)
    · rcases hx i' c' hc' with ⟨rfl, rfl⟩ | ⟨h3, h4⟩
      · intro hn'
        exact h.sep i c i' b n h1 hid hne hmc hn ((hh n).1 hn')
      · exact h.sep i c i' c' n h1 h3 hne hmc hn
  · rcases hx i c hc with ⟨rfl, rfl⟩ | ⟨h1, h2⟩
    · exact h.mutL i b n hid hm ((hh n).1 hn)
    · exact h.mutL i c n h1 hmc hn
theorem HOK.grow (h : HOK P w0 L nx hp g w) {w' : World} (hg : w.grownBy w' none) : HOK P w0 L nx hp g w' :=
  ⟨h.idB, h.idH, fun i c hc => (h.blk i c hc).move fun n hn => hg.block n (h.lt hc hn) (by simp), h.sep, h.mutL, h.one, h.frame.grown hg (by simp)⟩
variable {st st' : St R} {a : Act}
theorem Inv.put (h : Inv P w0 L g0 hp0 st g a w) {d : Option Nat} {v : V} {c : Value} (hp : st.put d v = some st') (hc : v ≠ .no → c = concV g v) (hi : ∀ id ∈ idsV v, id < st.nx) (he : EpOK P st.hp v) : Inv P w0 L g0 hp0 st' g (a.put d c) w := by
  cases d with
  | none => simp only [St.put, Option.some.injEq] at hp; subst hp; exact h
  | some d =>
    simp only [St.put] at hp
    cases hb : Nat.blt d st.nt with
    | false => rw [hb] at hp; simp at hp
    | true =>
      rw [hb] at hp
      simp only [cond_true, Option.some.injEq] at hp
      subst hp
      have hd : d < a.tmps.size := by
        have : d + 1 ≤ st.nt := by simpa [Nat.blt] using hb
        rw [h.size]; omega
      refine ⟨h.defers, by simpa [Act.put] using h.size, fun t u hu hno => ?_, fun t u hu => ?_, fun t u hu => ?_, h.keep, h.args, h.na, h.hpna, h.heap⟩
      · rw [get_cons] at hu
        split at hu
        · rename_i e; simp only [Option.some.injEq] at hu; subst hu; subst e
          simp only [Act.put, Array.getElem?_setIfInBounds, if_true, if_pos hd]
          rw [hc hno]
        · rename_i e
          simp only [Act.put, Array.getElem?_setIfInBounds, if_neg e]
          exact h.tm t u hu hno
      · rw [get_cons] at hu
        split at hu
        · rename_i e; simp only [Option.some.injEq] at hu; subst hu; exact hi
        · exact h.idT t u hu
      · rw [get_cons] at hu
        split at hu
        · rename_i e; simp only [Option.some.injEq] at hu; subst hu; exact he
        · exact h.ep t u hu
omit [RowL P R] in
theorem Inv.onto (h : Inv P w0 L g0 hp0 st g a w) {nx' : Nat} {hp' : List (Nat × Blk R)} {g' : Nat → Value} {w' : World} (hh : HOK P w0 L nx' hp' g' w') (hn : st.nx ≤ nx') (hg : ∀ i, i < st.nx → g' i = g i) (hs : Same st.nx st.hp hp') :
    Inv P w0 L g0 hp0 { st with nx := nx', hp := hp' } g' a w' :=
  ⟨h.defers, h.size, fun t v hv hno => by rw [concV_congr fun id hid => hg id (h.idT t v hv id hid)]; exact h.tm t v hv hno, fun t v hv id hid => Nat.lt_of_lt_of_le (h.idT t v hv id hid) hn,
    fun t v hv => (h.ep t v hv).same hs (h.idT t v hv), fun i b0 hb0 => by
      obtain ⟨b, e1, e2, e3⟩ := h.keep i b0 hb0
      obtain ⟨b', f1, f2⟩ := hs.2 i b (h.heap.idH i b e1) e1 e3
      exact ⟨b', f1, e2.trans f2, e3.same f2⟩, fun id hid => (hg id (Nat.lt_of_lt_of_le hid h.na)).trans (h.args id hid), Nat.le_trans h.na hn, h.hpna, hh⟩
theorem Inv.ev (h : Inv P w0 L g0 hp0 st g a w) {x : Operand} (hno : AI.ev st x ≠ .no) : a.eval x = concV g (AI.ev st x) ∧ (∀ id ∈ idsV (AI.ev st x), id < st.nx) ∧ EpOK P st.hp (AI.ev st x) := by
  cases x with
  | tmp t =>
    simp only [AI.ev, St.v] at *
    cases hv : get st.tm t with
    | none => rw [hv] at hno; simp at hno
    | some v =>
      rw [hv] at hno
      simp only [Option.getD_some] at *
      refine ⟨?_, h.idT t v hv, h.ep t v hv⟩
      have := h.tm t v hv hno
      simp only [Act.eval, Array.getD_eq_getD_getElem?, this, Option.getD_some]
  | const v =>
    cases v <;> simp only [AI.ev] at * <;> first | exact absurd rfl hno | skip
    case bool b => exact ⟨rfl, by simp [idsV, idsW, idsC], trivial⟩
    case int k n => exact ⟨rfl, by simp [idsV, idsW, idsC], trivial⟩
    case slice A n c =>
      cases A with
      | some _ => exact absurd rfl hno
      | none =>
        cases n with
        | succ _ => exact absurd rfl hno
        | zero => cases c with
          | succ _ => exact absurd rfl hno
          | zero => exact ⟨rfl, by simp [idsV], trivial⟩
  | global _ => exact absurd rfl hno
  | func _ => exact absurd rfl hno
structure Tch (g : Nat → Value) (l : List Nat) (w w' : World) : Prop where
  os : w'.os = w.os
  tape : w'.tape = w.tape
  output : w'.output = w.output
  size : w.heap.size ≤ w'.heap.size
  block : ∀ k, k < w.heap.size → (∀ id ∈ l, blkOf (g id) ≠ some k) → w'.heap[k]? = w.heap[k]?
theorem Tch.refl (g : Nat → Value) (l : List Nat) (w : World) : Tch g l w w := ⟨rfl, rfl, rfl, Nat.le_refl _, fun _ _ _ => rfl⟩
theorem Tch.grown {g : Nat → Value} {l : List Nat} {w w' : World} {row : Option Nat} (h : w.grownBy w' row) (hr : ∀ n, row = some n → ∃ id ∈ l, blkOf (g id) = some n) : Tch g l w w' :=
  ⟨h.os, h.tape, h.output, h.size, fun k hk hl => h.block k hk fun e => by obtain ⟨id, h1, h2⟩ := hr k e.symm; exact hl id h1 h2⟩
def Ran (P : Program) (a : Act) (w : World) (o : Oper) (v : Value) (w' : World) : Prop := (execOp a.eval o).run P w = .ok (.value v) w' ∨ (execOp a.eval o).run P w = .ok .skip w' ∧ v = undef
def LdOK (P : Program) (st : St R) (g : Nat → Value) (base : Nat) (o : Oper) (w1 : World) : Prop := ∀ id ∈ loads st o, ∀ b, get st.hp id = some b → BlkOK P g w1 base id b
def Eff (P : Program) (w0 : World) (L : Nat → Prop) (g0 : Nat → Value) (hp0 : List (Blk R)) (st st' : St R) (g : Nat → Value) (a : Act) (w : World) (o : Oper) : Prop :=
  ∃ g' v w', Ran P a w o v w' ∧ Inv P w0 L g0 hp0 st' g' (a.put o.dst v) w' ∧ (∀ i, i < st.nx → g' i = g i) ∧ Tch g (writes st o) w w' ∧
    (quietOp o.op = true → g' = g ∧ ∀ w1, LdOK P st g w0.heap.size o w1 → (execOp a.eval o).run P w1 = .ok (.value v) w1)
omit [RowL P R] in
theorem eff_q {o : Oper} {v : Value} (hI : Inv P w0 L g0 hp0 st' g (a.put o.dst v) w) (hl : LdOK P st g w0.heap.size o w) (hrun : ∀ w1, LdOK P st g w0.heap.size o w1 → (execOp a.eval o).run P w1 = .ok (.value v) w1) : Eff P w0 L g0 hp0 st st' g a w o :=
  ⟨g, v, w, .inl (hrun w hl), hI, fun _ _ => rfl, Tch.refl _ _ _, fun _ => ⟨rfl, hrun⟩⟩
omit [RowL P R] in
theorem eff_n {o : Oper} {g' : Nat → Value} {v : Value} {w' : World} (hq : quietOp o.op = false) (hrun : Ran P a w o v w') (hI : Inv P w0 L g0 hp0 st' g' (a.put o.dst v) w') (hg : ∀ i, i < st.nx → g' i = g i) (ht : Tch g (writes st o) w w') : Eff P w0 L g0 hp0 st st' g a w o :=
  ⟨g', v, w', hrun, hI, hg, ht, fun h => by rw [hq] at h; simp at h⟩
omit [RowL P R] in
theorem ld_none {o : Oper} (h : ∀ t x, o.op ≠ .load t x) (w1 : World) : LdOK P st g w0.heap.size o w1 := by
  intro id hid
  unfold loads at hid
  split at hid
  · rename_i t x hop; exact absurd hop (h t x)
  · simp at hid
omit [RowL P R] in
theorem ld_here (h : Inv P w0 L g0 hp0 st g a w) (o : Oper) : LdOK P st g w0.heap.size o w := fun id _ b hb => h.heap.blk id b hb
omit [RowL P R] in
theorem Eff.wp {o : Oper} {K : Act → World → Prop} {Q : Exit → Act → World → Prop} (h : Eff P w0 L g0 hp0 st st' g a w o) (hK : ∀ g' a' w', Inv P w0 L g0 hp0 st' g' a' w' → K a' w') : o.wp P a w K Q := by
  obtain ⟨g', v, w', hr, hI, _, _, _⟩ := h
  unfold Oper.wp
  rcases hr with hr | ⟨hr, rfl⟩
  · rw [hr]; exact hK g' _ _ hI
  · rw [hr]; exact hK g' _ _ hI
end
end
end Go.Proofs.YtmfgajbkcnlkcaaGreat.AI
namespace Go.Proofs.YtmfgajbkcnlkcaaGreat.AI
set_option linter.all false
open Go Go.RowKit
section
variable {R : Type} [RowT R] {P : Program} [RowL P R] {w0 : World} {L : Nat → Prop} {g0 : Nat → Value} {hp0 : List (Blk R)} {st st' : St R} {g : Nat → Value} {a : Act} {w w' : World} {o : Oper}
variable {K : Act → World → Prop} {Q : Exit → Act → World → Prop} {ts : List Tst}
theorem oneC {nx : Nat} (h1 : ∀ i, i < nx → (g i).oneCell' = true) {c : C} (hi : ∀ id ∈ idsC c, id < nx) : (conc g c).oneCell' = true := by
  cases c <;> simp only [conc]
  case sc v => cases v <;> rfl
  case kb => rfl
  case bo => rfl
  case nb => rfl
  case rw id => exact h1 id (hi id (by simp [idsC]))
theorem cells_one {v : Value} (h : v.oneCell' = true) : v.cells = #[v] := by cases v <;> first | rfl | (simp [Value.oneCell'] at h)
theorem cellsW {nx : Nat} (h1 : ∀ i, i < nx → (g i).oneCell' = true) {y : W} (hi : ∀ id ∈ idsW y, id < nx) : (concW g y).cells = (y.cells.map (conc g)).toArray := by
  cases y with
  | c x => simp only [concW, W.cells, List.map_cons, List.map_nil]; exact cells_one (oneC h1 hi)
  | ag xs => rfl
theorem idsW_cells (y : W) : y.cells.flatMap idsC = idsW y := by cases y <;> simp [W.cells, idsW]
theorem Inv.newRows (h : Inv P w0 L g0 hp0 st g a w) {d : Option Nat} {r : R} (hr : AI.newRows st d r = some st') {c : Value} {row : Option Nat} (hg : w.grownBy w' row)
    (hrow : ∀ n, row = some n → (w0.heap.size ≤ n ∨ L n) ∧ ∀ id b', get st.hp id = some b' → ¬ HasB g id n b')
    (own : w'.ownsRow w0.heap.size (RowT.ty r) (P.cellsOf (RowT.ty r)) c (RowT.len r) (flat r)) (fresh : ∀ n, blkOf c = some n → w.heap.size ≤ n ∨ row = some n) : ∃ g', Inv P w0 L g0 hp0 st' g' (a.put d c) w' ∧ ∀ i, i < st.nx → g' i = g i := by
  refine ⟨upd g st.nx c, ?_, fun i hi => upd_other g c (by omega)⟩
  have ho : c.oneCell' = true := by rcases own.2 with ⟨rfl, _⟩ | ⟨_, _, _, rfl, _⟩ <;> rfl
  have hh := h.heap.add (b := Blk.rows 2 r) (v := c) hg hrow (by simp [idsB]) (by simpa [BlkOK, upd_same] using own) (fun n hn => fresh n (by simpa [HasB, upd_same] using hn)) ho
  have h1 := h.onto hh (Nat.le_succ _) (fun i hi => upd_other g c (by omega)) (Same.cons (.inl (Nat.le_refl _)))
  exact h1.put hr (fun _ => by simp [concV, concW, conc, upd_same]) (by simp [idsV, idsW, idsC]) trivial
theorem Inv.newBox (h : Inv P w0 L g0 hp0 st g a w) {d : Option Nat} {t : TypeId} {cs : List C} (hr : AI.newBox st d t cs = some st') (hi : ∀ id ∈ cs.flatMap idsC, id < st.nx) {v : Value} (hv : v.cells = (cs.map (conc g)).toArray) :
    ∃ g', Inv P w0 L g0 hp0 st' g' (a.put d (.pointer (some ⟨w.heap.size, 0, none⟩))) (w.alloc (.cells v.cells t)) ∧ ∀ i, i < st.nx → g' i = g i := by
  refine ⟨upd g st.nx (.pointer (some ⟨w.heap.size, 0, none⟩)), ?_, fun i hi => upd_other g _ (by omega)⟩
  have hc : ∀ id ∈ cs.flatMap idsC, upd g st.nx (.pointer (some ⟨w.heap.size, 0, none⟩)) id = g id := fun id hid => upd_other g _ (Nat.ne_of_lt (hi id hid))
  have hh := h.heap.add (b := (Blk.box t cs : Blk R)) (v := .pointer (some ⟨w.heap.size, 0, none⟩)) (row := none) (World.grownBy_alloc w (.cells v.cells t) none) (by simp) (by simpa [idsB] using hi)
    ⟨w.heap.size, upd_same _ _ _, by rw [concCs_congr hc, ← hv]; exact heap_alloc_new w _, fun c hc' => by
      rw [concC_congr fun id hid => hc id (List.mem_flatMap.2 ⟨c, hc', hid⟩)]
      exact oneC h.heap.one fun id hid => hi id (List.mem_flatMap.2 ⟨c, hc', hid⟩)⟩
    (fun n hn => .inl (by simp [HasB, upd_same, blkOf] at hn; omega)) rfl
  have h1 := h.onto hh (Nat.le_succ _) (fun i hi => upd_other g _ (by omega)) (Same.cons (.inl (Nat.le_refl _)))
  exact h1.put hr (fun _ => by simp [concV, upd_same]) (by simp [idsV]) trivial
theorem nil_own {t : TypeId} {r : R} (h : RowT.nil t = some r) : w.ownsRow w0.heap.size (RowT.ty r) (P.cellsOf (RowT.ty r)) (.slice none 0 0) (RowT.len r) (flat r) := by
  obtain ⟨h1, _⟩ := RowL.nil_eq (P := P) t r h
  have h2 : RowT.len r = 0 := by rw [RowL.len_eq (P := P), h1]; rfl
  have h3 : flat r = [] := by simp [flat, h1]
  rw [h2, h3]; exact World.ownsRow_nil w _ _ _
theorem grown_none (w : World) : w.grownBy w none := ⟨rfl, rfl, rfl, Nat.le_refl _, fun _ _ _ => rfl⟩
theorem binI_run {op : BinOp} {k : IntKind} {x y : Int} {c : C} (h : binI op k x y = some (ts, c)) (ht : ∀ t ∈ ts, t.p) (t : TypeId) : (binOp op t (.int k x) (.int k y)).run P w = .ok (conc g c) w ∧ idsC c = [] := by
  cases op <;> simp only [binI, Option.some.injEq, Prod.mk.injEq, reduceCtorEq] at h <;> obtain ⟨rfl, rfl⟩ := h <;> simp [binOp, Op.intArith, Op.intDiv, Op.intCmp, conc, Sc.v, idsC, wr_eq]
  case eql => rw [Bool.eq_iff_iff]; simp
  case neq => rw [Bool.eq_iff_iff]; simp
  · have := ht ⟨y ≠ 0, inferInstance⟩ (by simp); simp [show y ≠ 0 from this]
  · have := ht ⟨y ≠ 0, inferInstance⟩ (by simp); simp [show y ≠ 0 from this]
theorem zeroC_ok : ∀ (vs : List Value) (fs : List Field) (nx nx' : Nat) (hp es : List (Nat × Blk R)) (cs : List C) (g : Nat → Value), HOK P w0 L nx hp g w → zeroC P nx vs fs = some (nx', cs, es) →
    ∃ g', HOK P w0 L nx' (es ++ hp) g' w ∧ nx ≤ nx' ∧ (∀ i, i < nx → g' i = g i) ∧ cs.map (conc g') = vs ∧ (∀ id ∈ cs.flatMap idsC, id < nx') ∧ Same nx hp (es ++ hp)
  | [], fs, nx, nx', hp, es, cs, g, h, hz => by
    cases fs with
    | cons f fs => simp [zeroC] at hz
    | nil => simp only [zeroC, Option.some.injEq, Prod.mk.injEq] at hz; obtain ⟨rfl, rfl, rfl⟩ := hz; exact ⟨g, h, Nat.le_refl _, fun _ _ => rfl, rfl, by simp, Same.refl _ _⟩
  | v :: vs, fs, nx, nx', hp, es, cs, g, h, hz => by
    cases fs with
    | nil => cases v <;> first | (simp [zeroC] at hz; done) | (rename_i A n c; cases A <;> first | (simp [zeroC] at hz; done) | (cases n <;> first | (simp [zeroC] at hz; done) | (cases c <;> simp [zeroC] at hz)))
    | cons f fs =>
      cases v <;> first | (simp [zeroC] at hz; done) | skip
      case bool b =>
        simp only [zeroC] at hz
        split at hz
        · rename_i nx1 cs1 es1 h1
          simp only [Option.some.injEq, Prod.mk.injEq] at hz; obtain ⟨rfl, rfl, rfl⟩ := hz
          obtain ⟨g', h2, h3, h4, h5, h6, h7⟩ := zeroC_ok vs fs nx _ hp _ _ g h h1
          exact ⟨g', h2, h3, h4, by rw [List.map_cons, h5]; rfl, by simpa [idsC] using h6, h7⟩
        · simp at hz
      case int k n =>
        simp only [zeroC] at hz
        split at hz
        · rename_i nx1 cs1 es1 h1
          simp only [Option.some.injEq, Prod.mk.injEq] at hz; obtain ⟨rfl, rfl, rfl⟩ := hz
          obtain ⟨g', h2, h3, h4, h5, h6, h7⟩ := zeroC_ok vs fs nx _ hp _ _ g h h1
          exact ⟨g', h2, h3, h4, by rw [List.map_cons, h5]; rfl, by simpa [idsC] using h6, h7⟩
        · simp at hz
      case slice A n c =>
        cases A with
        | some _ => simp [zeroC] at hz
        | none => cases n with
          | succ _ => simp [zeroC] at hz
          | zero => cases c with
            | succ _ => simp [zeroC] at hz
            | zero =>
              simp only [zeroC] at hz
              split at hz
              · split at hz
                · rename_i e he r nx1 cs1 es1 hr h1
                  simp only [Option.some.injEq, Prod.mk.injEq] at hz; obtain ⟨rfl, rfl, rfl⟩ := hz
                  have h0 := h.add (b := Blk.rows 2 r) (v := .slice none 0 0) (grown_none w) (row := none) (by simp) (by simp [idsB]) (by simpa [BlkOK, upd_same] using nil_own (P := P) (w0 := w0) (w := w) hr) (fun n hn => by simp [HasB, upd_same, blkOf] at hn) rfl
                  obtain ⟨g', h2, h3, h4, h5, h6, h7⟩ := zeroC_ok vs fs (nx + 1) _ _ _ _ _ h0 h1
                  refine ⟨g', by rw [List.append_assoc]; exact h2, by omega, fun i hi => (h4 i (by omega)).trans (upd_other g _ (by omega)), ?_, ?_, by rw [List.append_assoc]; exact (Same.cons (.inl (Nat.le_refl _))).trans h7 (Nat.le_succ _)⟩
                  · rw [List.map_cons, h5]; simp only [conc]; rw [h4 nx (by omega), upd_same]
                  · intro id hid
                    simp only [List.flatMap_cons, idsC, List.singleton_append, List.mem_cons] at hid
                    rcases hid with rfl | hid
                    · omega
                    · exact h6 id hid
                · simp at hz
              · simp at hz
theorem zeroOf_ok {t : TypeId} {cs : List C} (h : Inv P w0 L g0 hp0 st g a w) (hz : zeroOf P t st = some (st', cs)) : ∃ g' fs i z, Inv P w0 L g0 hp0 st' g' a w ∧ P.underlying t = some (.struct fs) ∧ P.info? t = some i ∧ i.zero = some (.agg z) ∧ cs.map (conc g') = z.toList ∧
    (∀ id ∈ cs.flatMap idsC, id < st'.nx) ∧ (∀ x, AI.ev st' x = AI.ev st x) ∧ (∀ i, i < st.nx → g' i = g i) ∧ st.nx ≤ st'.nx := by
  unfold zeroOf at hz
  split at hz
  · rename_i fs i hu hi
    split at hz
    · rename_i z hiz
      split at hz
      · rename_i nx' cs' es h1
        simp only [Option.some.injEq, Prod.mk.injEq] at hz; obtain ⟨rfl, rfl⟩ := hz
        obtain ⟨g', h2, h3, h4, h5, h6, h7⟩ := zeroC_ok _ _ _ _ _ _ _ g h.heap h1
        exact ⟨g', fs, i, z, h.onto h2 h3 h4 h7, hu, hi, hiz, h5, h6, fun x => by cases x <;> rfl, h4, h3⟩
      · simp at hz
    · simp at hz
  · simp at hz
theorem run_zero {t : TypeId} {i : TypeInfo} {z : Value} (hi : P.info? t = some i) (hz : i.zero = some z) : (zeroValue t).run P w = .ok z w := by simp [zeroValue, typeInfo, hi, hz]
theorem wp_alloc {t : TypeId} (hop : o.op = .alloc t) (h : Inv P w0 L g0 hp0 st g a w) {cs : List C} {st1 : St R} (hz : zeroOf P t st = some (st1, cs)) (hp : AI.newBox st1 o.dst t cs = some st') : Eff P w0 L g0 hp0 st st' g a w o := by
  obtain ⟨g1, fs, i, z, h1, hu, hi, hiz, hc, hids, _, hg1, hnx⟩ := zeroOf_ok h hz
  obtain ⟨g', h2, hg2⟩ := h1.newBox (v := .agg z) hp hids (by rw [hc]; simp [Value.cells])
  refine eff_n (w' := w.alloc (.cells (Value.agg z).cells t)) (by rw [hop]; rfl) (.inl ?_) h2 (fun i hi => (hg2 i (by omega)).trans (hg1 i hi)) (Tch.grown (World.grownBy_alloc w _ none) (by simp))
  unfold execOp; rw [hop]
  simp [Instr.alloc, run_zero hi hiz, newVar, newRow]
theorem wp_box {t : TypeId} {x : Operand} (hop : o.op = .box t x) (h : Inv P w0 L g0 hp0 st g a w) {y : W} (hy : AI.ev st x = .w y) (hp : AI.newBox st o.dst t y.cells = some st') : Eff P w0 L g0 hp0 st st' g a w o := by
  obtain ⟨he, hi, _⟩ := h.ev (x := x) (by rw [hy]; simp)
  rw [hy] at he hi
  obtain ⟨g', h2, hg2⟩ := h.newBox (v := concW g y) hp (by rw [idsW_cells]; exact hi) (cellsW h.heap.one hi)
  refine eff_n (w' := w.alloc (.cells (concW g y).cells t)) (by rw [hop]; rfl) (.inl ?_) h2 hg2 (Tch.grown (World.grownBy_alloc w _ none) (by simp))
  unfold execOp; rw [hop]
  simp [Instr.box, newVar, newRow, he, concV]
end
end Go.Proofs.YtmfgajbkcnlkcaaGreat.AI
namespace Go.Proofs.YtmfgajbkcnlkcaaGreat.AI
set_option linter.all false
open Go Go.RowKit
theorem nth_eq {α : Type} : ∀ (l : List α) (n : Nat), nth l n = l[n]?
  | [], _ => by simp [nth]
  | x :: l, 0 => by simp [nth]
  | x :: l, n + 1 => by simp [nth, nth_eq l n]
theorem setAt_eq {α : Type} : ∀ (l : List α) (n : Nat) (y : α), setAt l n y = l.set n y
  | [], _, _ => by simp [setAt]
  | x :: l, 0, y => by simp [setAt]
  | x :: l, n + 1, y => by simp [setAt, setAt_eq l n y]
theorem beq_true {a b : Nat} (h : Nat.beq a b = true) : a = b := Nat.eq_of_beq_eq_true h
theorem flatten_at {α : Type} {n : Nat} : ∀ (l : List (List α)), (∀ c ∈ l, c.length = n) → ∀ (i j : Nat), j < n → l.flatten[i * n + j]? = (l[i]?).bind (·[j]?)
  | [], _, i, j, _ => by simp
  | c :: l, h, i, j, hj => by
    have hc := h c (List.mem_cons_self ..)
    cases i with
    | zero =>
      rw [List.flatten_cons, Nat.zero_mul, Nat.zero_add, List.getElem?_append_left (by omega)]; rfl
    | succ i =>
      rw [List.flatten_cons, Nat.succ_mul, List.getElem?_append_right (by omega), show i * n + n + j - c.length = i * n + j by omega, flatten_at l (fun c' h' => h c' (List.mem_cons_of_mem _ h')) i j hj]
      rfl
theorem add_add (a : Addr) (x y : Nat) : (a.add x).add y = a.add (x + y) := by
  unfold Addr.add
  by_cases h1 : x = 0 <;> by_cases h2 : y = 0 <;> simp [h1, h2, Nat.add_assoc]
theorem add_lit (b o n : Nat) : (⟨b, o, none⟩ : Addr).add n = ⟨b, o + n, none⟩ := by
  unfold Addr.add; split <;> simp_all
section
variable {R : Type} [RowT R] {P : Program} [RowL P R] {w0 : World} {L : Nat → Prop} {g0 : Nat → Value} {hp0 : List (Blk R)} {st st' : St R} {g : Nat → Value} {a : Act} {w w' : World} {o : Oper}
variable {K : Act → World → Prop} {Q : Exit → Act → World → Prop} {ts : List Tst}
theorem sz_pos (P : Program) [RowL P R] (r : R) : 0 < P.cellsOf (RowT.ty r) := by
  obtain ⟨i, z, hi, _, _, hs, _⟩ := RowL.info (P := P) r
  simpa [Program.cellsOf, hi] using hs
theorem cel_len (P : Program) [RowL P R] {r : R} {c : List Sc} (hc : c ∈ RowT.cel r) : c.length = P.cellsOf (RowT.ty r) := by
  obtain ⟨i, z, hi, _, _, _, _, h⟩ := RowL.info (P := P) r
  simpa [Program.cellsOf, hi] using h c hc
theorem elt_mem (P : Program) [RowL P R] {r : R} {i : Nat} (hi : i < RowT.len r) : RowT.elt r i ∈ RowT.cel r := List.mem_of_getElem? (RowL.elt_eq (P := P) r i hi)
theorem flat_at (P : Program) [RowL P R] {r : R} {i j : Nat} (hi : i < RowT.len r) (hj : j < P.cellsOf (RowT.ty r)) : (flat r)[i * P.cellsOf (RowT.ty r) + j]? = ((RowT.elt r i)[j]?).map Sc.v := by
  rw [flat, List.getElem?_map, flatten_at _ (fun c hc => cel_len P hc) i j hj, RowL.elt_eq (P := P) r i hi]; rfl
theorem elt_len (P : Program) [RowL P R] {r : R} {i : Nat} (hi : i < RowT.len r) : (RowT.elt r i).length = P.cellsOf (RowT.ty r) := cel_len P (elt_mem P hi)
theorem rowCell {id k : Nat} {r : R} {base : Nat} (h : BlkOK P g w base id (.rows k r)) (hp : 0 < RowT.len r) : ∃ ad n cap, g id = .slice (some ad) n cap ∧ n = RowT.len r ∧ ∀ j u, (flat r)[j]? = some u → w.cell? (ad.add j) = some u := by
  cases k with
  | zero =>
    obtain ⟨A, cap, hg, _, _, hc⟩ := h
    have h0 : 0 < (flat r).length := by rw [flat_length (P := P)]; exact Nat.mul_pos hp (sz_pos P r)
    obtain ⟨ad, hA, _⟩ := hc 0 _ (List.getElem?_eq_getElem h0)
    refine ⟨ad, _, cap, by rw [hg, hA], rfl, fun j u hu => ?_⟩
    obtain ⟨ad', hA', hcell⟩ := hc j u hu
    rw [hA] at hA'; injection hA' with e; subst e; exact hcell
  | succ k =>
    rcases h.2 with ⟨_, h0⟩ | ⟨b, cap, cur, hv, _, hh, _, _, _, ht⟩
    · omega
    · refine ⟨⟨b, 0, none⟩, _, cap, hv, rfl, fun j u hu => ?_⟩
      rw [add_lit, cell_of_row w b _ cur _ _ hh]
      rw [← ht, List.getElem?_take] at hu
      split at hu
      · simpa using hu
      · simp at hu
theorem info_of {t : TypeId} {d : TypeDesc} (h : P.underlying t = some d) : ∃ i, P.info? t = some i := by
  unfold Program.underlying at h
  cases hi : P.info? t with
  | none => rw [hi] at h; simp at h
  | some i => exact ⟨i, rfl⟩
theorem run_size {t : TypeId} {i : TypeInfo} (h : P.info? t = some i) : (sizeOf t).run P w = .ok (P.cellsOf t) w := by
  simp [sizeOf, typeInfo, h, Program.cellsOf]
theorem run_isAgg_s {t : TypeId} {fs : Array Field} (h : P.underlying t = some (.struct fs)) : (isAgg t).run P w = .ok true w := by
  simp [isAgg, run_underlying h]
theorem isStruct_of {t : TypeId} (h : isStruct P t = true) : ∃ fs, P.underlying t = some (.struct fs) := by
  unfold isStruct at h
  split at h
  · rename_i fs hu; exact ⟨fs, hu⟩
  · simp at h
theorem isOne_of {t : TypeId} (h : isOne P t = true) : P.cellsOf t = 1 ∧ (isAgg t).run P w = .ok false w ∧ ∃ i, P.info? t = some i := by
  unfold isOne at h
  simp only [Bool.and_eq_true] at h
  obtain ⟨h1, h2⟩ := h
  refine ⟨beq_true h1, ?_⟩
  split at h2 <;> first | (simp at h2; done) | (rename_i hu; exact ⟨by simp [isAgg, run_underlying hu], info_of hu⟩)
theorem run_loadStruct {t : TypeId} {fs : Array Field} (hu : P.underlying t = some (.struct fs)) {ad : Addr} {cs : List Value} (hl : P.cellsOf t = cs.length) (h : ∀ j v, cs[j]? = some v → w.cell? (ad.add j) = some v) :
    (Instr.loadAt t (.pointer (some ad))).run P w = .ok (.agg cs.toArray) w := by
  obtain ⟨i, hi⟩ := info_of hu
  simp [Instr.loadAt, Instr.sureAddr, loadVar, run_isAgg_s hu, run_size hi, hl, run_loadCells_list w ad cs h]
theorem run_loadOne {t : TypeId} (h1 : isOne P t = true) {ad : Addr} {v : Value} (h : w.cell? ad = some v) : (Instr.loadAt t (.pointer (some ad))).run P w = .ok v w := by
  obtain ⟨_, h2, _⟩ := isOne_of (P := P) (w := w) h1
  simp [Instr.loadAt, Instr.sureAddr, loadVar, h2, run_load, h]
theorem wp_load {t : TypeId} {x : Operand} (hop : o.op = .load t x) (h : Inv P w0 L g0 hp0 st g a w) (hp : pop P o st = some (ts, st')) : Eff P w0 L g0 hp0 st st' g a w o := by
  unfold pop at hp
  rw [hop] at hp
  dsimp only at hp
  have hex : execOp a.eval o = (do pure (Next.value (← Instr.loadAt t (a.eval x)))) := by unfold execOp; rw [hop]
  split at hp
  · -- a variable
    rename_i id off hv
    obtain ⟨he, hi, _⟩ := h.ev (x := x) (by rw [hv]; simp)
    rw [hv] at he hi
    split at hp
    · rename_i t' cs hb
      obtain ⟨b, hg, _, h1⟩ := h.heap.blk _ _ hb
      have hld : ∀ w1, LdOK P st g w0.heap.size o w1 → BlkOK P g w1 w0.heap.size id (.box t' cs : Blk R) := fun w1 hw1 => hw1 id (by simp [loads, hop, hv, idOf]) _ hb
      have he' : a.eval x = .pointer (some ⟨b, off, none⟩) := by rw [he]; simp only [concV, hg]
      cases hc : (isStruct P t && Nat.beq off 0 && Nat.beq t t' && Nat.beq (P.cellsOf t) cs.length) with
      | true =>
        rw [hc] at hp
        simp only [cond_true] at hp
        simp only [Bool.and_eq_true] at hc
        obtain ⟨⟨⟨hs, h0⟩, ht⟩, hl⟩ := hc
        obtain ⟨fs, hu⟩ := isStruct_of hs
        obtain rfl := beq_true h0
        split at hp <;> simp only [Option.some.injEq, Prod.mk.injEq, reduceCtorEq] at hp
        rename_i s hs'
        obtain ⟨_, rfl⟩ := hp
        refine eff_q (v := .agg (cs.map (conc g)).toArray) (h.put hs' (fun _ => rfl) (fun id' hid => h.heap.idB _ _ hb id' (by simpa [idsV, idsW, idsB] using hid)) trivial) (ld_here h o) (fun w1 hw1 => ?_)
        obtain ⟨b', hg', hh, _⟩ := hld w1 hw1
        rw [hg] at hg'; injection hg' with hg'; injection hg' with hg'; injection hg' with hg'; subst hg'
        rw [hex, he']
        simp [run_loadStruct hu (cs := cs.map (conc g)) (ad := ⟨b, 0, none⟩) (w := w1) (by rw [beq_true hl]; simp) (fun j v hj => by rw [add_lit, cell_of_row w1 b _ _ _ _ hh]; simpa using hj)]
      | false =>
        rw [hc] at hp
        simp only [cond_false] at hp
        cases ho : isOne P t with
        | false => rw [ho] at hp; simp at hp
        | true =>
          rw [ho] at hp
          simp only [cond_true] at hp
          split at hp
          · rename_i c hcc
            split at hp <;> simp only [Option.some.injEq, Prod.mk.injEq, reduceCtorEq] at hp
            rename_i s hs'
            obtain ⟨_, rfl⟩ := hp
            rw [nth_eq] at hcc
            refine eff_q (v := conc g c) (h.put hs' (fun _ => rfl) (fun id' hid => h.heap.idB _ _ hb id' (by
              simp only [idsB]; exact List.mem_flatMap.2 ⟨c, List.mem_of_getElem? hcc, by simpa [idsV, idsW] using hid⟩)) trivial) (ld_here h o) (fun w1 hw1 => ?_)
            obtain ⟨b', hg', hh, _⟩ := hld w1 hw1
            rw [hg] at hg'; injection hg' with hg'; injection hg' with hg'; injection hg' with hg'; subst hg'
            rw [hex, he']
            simp [run_loadOne (P := P) (w := w1) (ad := ⟨b, off, none⟩) (v := conc g c) ho (by rw [cell_of_row w1 b _ _ _ _ hh]; simp [hcc])]
          · simp at hp
    · simp at hp
  · -- an element
    rename_i id sz i off hv
    obtain ⟨he, hi, hep⟩ := h.ev (x := x) (by rw [hv]; simp)
    rw [hv] at he hi hep
    split at hp
    · rename_i k r hb
      obtain ⟨hlt, hsz⟩ := hep k r hb
      obtain ⟨ad, n, cap, hg, _, _⟩ := rowCell (h.heap.blk _ _ hb) (Nat.lt_of_le_of_lt (Nat.zero_le _) hlt)
      have hld : ∀ w1, LdOK P st g w0.heap.size o w1 → ∀ j u, (flat r)[j]? = some u → w1.cell? (ad.add j) = some u := fun w1 hw1 => by
        obtain ⟨ad', n', cap', hg', _, hcell⟩ := rowCell (hw1 id (by simp [loads, hop, hv, idOf]) _ hb) (Nat.lt_of_le_of_lt (Nat.zero_le _) hlt)
        rw [hg] at hg'; injection hg' with hg'; injection hg' with hg'; subst hg'; exact hcell
      have he' : a.eval x = .pointer (some (ad.add (i * sz + off))) := by rw [he]; simp only [concV, hg]
      have hel := elt_len P hlt
      cases hc : (isStruct P t && Nat.beq off 0 && Nat.beq t (RowT.ty r)) with
      | true =>
        rw [hc] at hp
        simp only [cond_true] at hp
        simp only [Bool.and_eq_true] at hc
        obtain ⟨⟨hs, h0⟩, ht⟩ := hc
        obtain ⟨fs, hu⟩ := isStruct_of hs
        obtain rfl := beq_true h0
        obtain rfl := beq_true ht
        split at hp <;> simp only [Option.some.injEq, Prod.mk.injEq, reduceCtorEq] at hp
        rename_i s hs'
        obtain ⟨_, rfl⟩ := hp
        have hm : ((RowT.elt r i).map C.sc).map (conc g) = (RowT.elt r i).map Sc.v := by rw [List.map_map]; rfl
        refine eff_q (v := .agg ((RowT.elt r i).map Sc.v).toArray) (h.put hs' (fun _ => by simp only [concV, concW, hm]) (by simp [idsV, idsW, idsC]) trivial) (ld_here h o) (fun w1 hw1 => ?_)
        have hcell := hld w1 hw1
        rw [hex, he']
        simp [run_loadStruct hu (cs := (RowT.elt r i).map Sc.v) (ad := ad.add (i * sz)) (w := w1) (by simp [hel]) (fun j v hj => by
          rw [add_add]; refine hcell _ _ ?_
          rw [List.getElem?_map] at hj
          rw [hsz, flat_at P hlt (by rcases Nat.lt_or_ge j (RowT.elt r i).length with h1 | h1; omega; rw [List.getElem?_eq_none h1] at hj; simp at hj)]; exact hj)]
      | false =>
        rw [hc] at hp
        simp only [cond_false] at hp
        cases ho : isOne P t with
        | false => rw [ho] at hp; simp at hp
        | true =>
          rw [ho] at hp
          simp only [cond_true] at hp
          split at hp
          · rename_i s hcc
            split at hp <;> simp only [Option.some.injEq, Prod.mk.injEq, reduceCtorEq] at hp
            rename_i st2 hs'
            obtain ⟨_, rfl⟩ := hp
            rw [nth_eq] at hcc
            have hj : off < (RowT.elt r i).length := by
              rcases Nat.lt_or_ge off (RowT.elt r i).length with h1 | h1
              · exact h1
              · rw [List.getElem?_eq_none h1] at hcc; simp at hcc
            refine eff_q (v := s.v) (h.put hs' (fun _ => rfl) (by simp [idsV, idsW, idsC]) trivial) (ld_here h o) (fun w1 hw1 => ?_)
            have hcell := hld w1 hw1
            rw [hex, he']
            simp [run_loadOne (P := P) (w := w1) (ad := ad.add (i * sz + off)) (v := s.v) ho (hcell _ _ (by rw [hsz, flat_at P hlt (by omega), hcc]; rfl))]
          · simp at hp
    · simp at hp
  · simp at hp
end
end Go.Proofs.YtmfgajbkcnlkcaaGreat.AI
namespace Go.Proofs.YtmfgajbkcnlkcaaGreat.AI
set_option linter.all false
open Go Go.RowKit
theorem flatten_set {α : Type} {n : Nat} : ∀ (l : List (List α)), (∀ c ∈ l, c.length = n) → ∀ (i : Nat) (c : List α), i < l.length → (l.set i c).flatten = l.flatten.take (i * n) ++ c ++ l.flatten.drop (i * n + n)
  | [], _, i, c, hi => by simp at hi
  | e :: l, h, i, c, hi => by
    have he := h e (List.mem_cons_self ..)
    cases i with
    | zero =>
      simp only [List.set_cons_zero, List.flatten_cons, Nat.zero_mul, Nat.zero_add, List.take_zero, List.nil_append]
      rw [← he, List.drop_left]
    | succ i =>
      simp only [List.set_cons_succ, List.flatten_cons]
      rw [flatten_set l (fun c' h' => h c' (List.mem_cons_of_mem _ h')) i c (by simpa using hi), show (i + 1) * n + n = e.length + (i * n + n) by rw [Nat.succ_mul]; omega, show (i + 1) * n = e.length + i * n by rw [Nat.succ_mul]; omega,
        List.take_length_add_append, List.drop_length_add_append]
      simp only [List.append_assoc]
theorem flatten_set1 {α : Type} {n : Nat} : ∀ (l : List (List α)), (∀ c ∈ l, c.length = n) → ∀ (i off : Nat) (e : List α) (v : α), l[i]? = some e → off < n → (l.set i (e.set off v)).flatten = l.flatten.set (i * n + off) v
  | [], _, i, off, e, v, hi, _ => by simp at hi
  | e0 :: l, h, i, off, e, v, hi, ho => by
    have he := h e0 (List.mem_cons_self ..)
    cases i with
    | zero =>
      simp only [List.getElem?_cons_zero, Option.some.injEq] at hi
      subst hi
      simp only [List.set_cons_zero, List.flatten_cons, Nat.zero_mul, Nat.zero_add]
      rw [List.set_append_left _ _ (by omega)]
    | succ i =>
      simp only [List.getElem?_cons_succ] at hi
      simp only [List.set_cons_succ, List.flatten_cons]
      rw [flatten_set1 l (fun c' h' => h c' (List.mem_cons_of_mem _ h')) i off e v hi ho, Nat.succ_mul, List.set_append_right _ _ (by omega)]
      congr 2; omega
section
variable {R : Type} [RowT R] {P : Program} [RowL P R] {w0 : World} {L : Nat → Prop} {g0 : Nat → Value} {hp0 : List (Blk R)} {st st' : St R} {g : Nat → Value} {a : Act} {w w' : World} {o : Oper}
variable {K : Act → World → Prop} {Q : Exit → Act → World → Prop} {ts : List Tst}
theorem grown_setRow (w : World) (b : Nat) (cs : Array Value) : w.grownBy (w.setRow b cs) (some b) := ⟨rfl, rfl, rfl, by simp, fun k _ hk => setRow_other w b k _ (fun e => hk (by simp [e]))⟩
theorem run_storeAt {t : TypeId} {i : TypeInfo} (hi : P.info? t = some i) {b off : Nat} {t' : TypeId} {cur : Array Value} {v : Value} {vs : List Value} (hv : v.cells.toList = vs) (hl : vs.length = P.cellsOf t)
    (hh : w.heap[b]? = some (.cells cur t' (0, 0))) (hf : off + vs.length ≤ cur.size) (h1 : ∀ u ∈ vs, u.oneCell' = true) :
    (Instr.storeAt t (.pointer (some ⟨b, off, none⟩)) v).run P w = .ok () (w.setRow b (cur.toList.take off ++ vs ++ cur.toList.drop (off + vs.length)).toArray) := by
  have hs : v.cells.size = P.cellsOf t := by rw [← hl, ← hv]; simp
  have := run_storeCells_at P b off t' vs 0 cur w hh (by simpa using hf) h1
  simp [Instr.storeAt, Instr.sureAddr, storeVar, run_size hi, hs, hv, this]
theorem Sc.one (s : Sc) : s.v.oneCell' = true := by cases s <;> rfl
theorem val_conc {c : C} {s : Sc} (h : c.val = some s) : conc g c = s.v := by
  cases c <;> simp only [C.val, Option.some.injEq, reduceCtorEq] at h <;> subst h <;> rfl
theorem vals_conc : ∀ {cs : List C} {vs : List Sc}, vals cs = some vs → cs.map (conc g) = vs.map Sc.v
  | [], vs, h => by simp only [vals, Option.some.injEq] at h; subst h; rfl
  | c :: cs, vs, h => by
    simp only [vals] at h
    split at h
    · rename_i v vs' h1 h2
      simp only [Option.some.injEq] at h; subst h
      rw [List.map_cons, List.map_cons, val_conc h1, vals_conc h2]
    · simp at h
theorem own_store {base e sz n b off : Nat} {c : Value} {xs vs : List Value} {cur : Array Value} {cap : Nat} (h : w.ownsRow base e sz c n xs) (hc : c = .slice (some ⟨b, 0, none⟩) n cap) (hh : w.heap[b]? = some (.cells cur e (0, 0)))
    (hf : off + vs.length ≤ n * sz) : (w.setRow b (cur.toList.take off ++ vs ++ cur.toList.drop (off + vs.length)).toArray).ownsRow base e sz c n (xs.take off ++ vs ++ xs.drop (off + vs.length)) := by
  obtain ⟨hl, h2⟩ := h
  rcases h2 with ⟨h2, _⟩ | ⟨b', cap', cur', hv, hb, hh', h3, h4, h5, h6⟩
  · rw [hc] at h2; simp at h2
  · rw [hc] at hv
    simp only [Value.slice.injEq, Option.some.injEq, Addr.mk.injEq, and_true, true_and] at hv
    obtain ⟨rfl, rfl⟩ := hv
    rw [hh] at hh'
    simp only [Option.some.injEq, Obj.cells.injEq, and_true] at hh'
    subst hh'
    have hN : n * sz ≤ cur.toList.length := by rw [Array.length_toList, h5]; exact Nat.mul_le_mul_right _ h3
    refine ⟨?_, .inr ⟨b, cap, _, hc, hb, setRow_heap w b cur _ e _ hh, h3, h4, ?_, ?_⟩⟩
    · simp only [List.length_append, List.length_take, List.length_drop]; omega
    · simp only [List.size_toArray, List.length_append, List.length_take, List.length_drop, Array.length_toList]
      rw [Array.length_toList] at hN; omega
    · subst h6
      have e1 : (cur.toList.take (n * sz)).take off = cur.toList.take off := by rw [List.take_take, Nat.min_eq_left (by omega)]
      have e2 : (cur.toList.take (n * sz)).drop (off + vs.length) = (cur.toList.drop (off + vs.length)).take (n * sz - off - vs.length) := by rw [List.drop_take]; congr 1; omega
      have e3 : (cur.toList.take off).length = off := by simp only [List.length_take]; omega
      have e4 : ((cur.toList.take off ++ vs ++ cur.toList.drop (off + vs.length)).take (n * sz)) = cur.toList.take off ++ vs ++ (cur.toList.drop (off + vs.length)).take (n * sz - off - vs.length) := by
        rw [List.append_assoc, List.append_assoc, List.take_append, e3, List.take_of_length_le (by omega : (cur.toList.take off).length ≤ n * sz), List.take_append, List.take_of_length_le (by omega : vs.length ≤ n * sz - off)]
      rw [e1, e2, ← e4]
theorem wp_store {t : TypeId} {x y : Operand} (hop : o.op = .store t x y) (h : Inv P w0 L g0 hp0 st g a w) (hp : pop P o st = some (ts, st')) : Eff P w0 L g0 hp0 st st' g a w o := by
  unfold pop at hp
  rw [hop] at hp
  dsimp only at hp
  have hex : execOp a.eval o = (do Instr.storeAt t (a.eval x) (a.eval y); pure Next.skip) := by unfold execOp; rw [hop]
  have fin : ∀ {w' : World} {hp' : List (Nat × Blk R)} {id b : Nat}, (Instr.storeAt t (a.eval x) (a.eval y)).run P w = .ok () w' → o.dst = none → HOK P w0 L st.nx hp' g w' → Same st.nx st.hp hp' → st' = { st with hp := hp' } → id ∈ idOf (AI.ev st x) → blkOf (g id) = some b → w.grownBy w' (some b) → Eff P w0 L g0 hp0 st st' g a w o := by
    intro w' hp' id b hr hd hh hs e hid hblk hgr
    refine eff_n (g' := g) (v := undef) (w' := w') (by rw [hop]; rfl) (.inr ⟨by rw [hex]; simp [hr], rfl⟩) ?_ (fun _ _ => rfl) (Tch.grown hgr (fun n hn => ⟨id, by simpa [writes, hop] using hid, by injection hn with hn; rw [← hn]; exact hblk⟩))
    rw [hd]
    subst e
    exact h.onto hh (Nat.le_refl _) (fun _ _ => rfl) hs
  split at hp
  · -- a variable
    rename_i id off y' hdst hv hy
    obtain ⟨he, hi, _⟩ := h.ev (x := x) (by rw [hv]; simp)
    obtain ⟨he2, hi2, _⟩ := h.ev (x := y) (by rw [hy]; simp)
    rw [hv] at he hi
    rw [hy] at he2 hi2
    split at hp
    · rename_i t' cs hb
      obtain ⟨b, hg, hh, h1⟩ := h.heap.blk _ _ hb
      have he' : a.eval x = .pointer (some ⟨b, off, none⟩) := by rw [he]; simp only [concV, hg]
      have hblk : blkOf (g id) = some b := by rw [hg]; rfl
      have turn : ∀ (zs : List C) (arr : Array Value), (∀ j ∈ zs.flatMap idsC, j < st.nx) → arr = (zs.map (conc g)).toArray → HOK P w0 L st.nx ((id, .box t' zs) :: st.hp) g (w.setRow b arr) := fun zs arr hz e =>
        h.heap.turn (b := .box t' cs) (b' := .box t' zs) hb trivial trivial (by rw [hblk]; exact grown_setRow w b _) hz
          ⟨b, hg, by rw [e]; exact setRow_heap w b _ _ t' _ hh, fun c hc => oneC h.heap.one fun q hq => hz q (List.mem_flatMap.2 ⟨c, hc, hq⟩)⟩ (fun _ => Iff.rfl) (fun _ hn => hn)
      split at hp
      · rename_i ys
        cases hc : (isStruct P t && Nat.beq off 0 && Nat.beq t t' && Nat.beq ys.length cs.length && Nat.beq (P.cellsOf t) cs.length) with
        | false => rw [hc] at hp; simp at hp
        | true =>
          rw [hc] at hp
          simp only [cond_true, Option.some.injEq, Prod.mk.injEq] at hp
          obtain ⟨_, hp⟩ := hp
          simp only [Bool.and_eq_true] at hc
          obtain ⟨⟨⟨⟨hs, h0⟩, ht⟩, hl⟩, hl2⟩ := hc
          obtain ⟨fs, hu⟩ := isStruct_of hs
          obtain ⟨i, hinf⟩ := info_of hu
          obtain rfl := beq_true h0
          have hl' := beq_true hl
          have hl2' := beq_true hl2
          have hys : ∀ j ∈ ys.flatMap idsC, j < st.nx := by simpa [idsV, idsW] using hi2
          refine fin (w' := w.setRow b ((ys.map (conc g)).toArray)) ?_ hdst (turn ys _ hys rfl) (Same.cons (.inr (.inl ⟨_, _, _, rfl, hb⟩))) hp.symm (id := id) (by rw [hv]; simp [idOf]) hblk (grown_setRow w b _)
          rw [he', he2]
          have := run_storeAt (P := P) hinf (b := b) (off := 0) (v := concV g (.w (.ag ys))) (vs := ys.map (conc g)) rfl (by simp; omega) hh (by simp; omega) (fun u hu => by
            obtain ⟨c, hc, rfl⟩ := List.mem_map.1 hu
            exact oneC h.heap.one fun q hq => hys q (List.mem_flatMap.2 ⟨c, hc, hq⟩))
          rw [this]
          congr 2
          simp [hl']
      · rename_i y1
        cases ho : isOne P t with
        | false => rw [ho] at hp; simp at hp
        | true =>
          rw [ho] at hp
          simp only [cond_true] at hp
          split at hp
          · rename_i c0 hc0
            simp only [Option.some.injEq, Prod.mk.injEq] at hp
            obtain ⟨_, hp⟩ := hp
            obtain ⟨hsz, _, i, hinf⟩ := isOne_of (P := P) (w := w) ho
            rw [nth_eq] at hc0
            have hoff : off < cs.length := by
              rcases Nat.lt_or_ge off cs.length with q | q
              · exact q
              · rw [List.getElem?_eq_none q] at hc0; simp at hc0
            have hy1 : ∀ j ∈ idsC y1, j < st.nx := by simpa [idsV, idsW] using hi2
            have hone := oneC h.heap.one hy1
            have hset : ∀ j ∈ (setAt cs off y1).flatMap idsC, j < st.nx := by
              intro j hj
              rw [setAt_eq] at hj
              obtain ⟨c, hc, hq⟩ := List.mem_flatMap.1 hj
              rcases List.mem_or_eq_of_mem_set hc with h5 | rfl
              · exact h.heap.idB _ _ hb j (List.mem_flatMap.2 ⟨c, h5, hq⟩)
              · exact hy1 j hq
            refine fin (w' := w.setRow b (((setAt cs off y1).map (conc g)).toArray)) ?_ hdst (turn _ _ hset rfl) (Same.cons (.inr (.inl ⟨_, _, _, rfl, hb⟩))) hp.symm (id := id) (by rw [hv]; simp [idOf]) hblk (grown_setRow w b _)
            rw [he', he2]
            have := run_storeAt (P := P) hinf (b := b) (off := off) (v := concV g (.w (.c y1))) (vs := [conc g y1]) (by simp only [concV, concW]; rw [cells_one hone]) (by simp [hsz]) hh (by simp; omega) (fun u hu => by simp at hu; rw [hu]; exact hone)
            rw [this]
            congr 3
            rw [setAt_eq, List.map_set, List.set_eq_take_append_cons_drop, if_pos (by simpa using hoff)]
            simp
          · simp at hp
    · simp at hp
  · -- an element
    rename_i id sz i off y' hdst hv hy
    obtain ⟨he, hi, hep⟩ := h.ev (x := x) (by rw [hv]; simp)
    obtain ⟨he2, hi2, _⟩ := h.ev (x := y) (by rw [hy]; simp)
    rw [hv] at he hi hep
    rw [hy] at he2 hi2
    split at hp
    · rename_i k r hb
      obtain ⟨hlt, hsz⟩ := hep _ r hb
      have hown : w.ownsRow (if k = 1 then w0.heap.size else 0) (RowT.ty r) (P.cellsOf (RowT.ty r)) (g id) (RowT.len r) (flat r) := h.heap.blk _ _ hb
      rcases hown.2 with ⟨_, h0⟩ | ⟨b, cap, cur, hg, _, hh, hcap, _, hcs, htk⟩
      · omega
      have hN : RowT.len r * P.cellsOf (RowT.ty r) ≤ cur.size := by rw [hcs]; exact Nat.mul_le_mul_right _ hcap
      have hblk : blkOf (g id) = some b := by rw [hg]; rfl
      have hpos : i * sz + sz ≤ RowT.len r * P.cellsOf (RowT.ty r) := by rw [hsz, ← Nat.succ_mul]; exact Nat.mul_le_mul_right _ hlt
      have he' : a.eval x = .pointer (some ⟨b, i * sz + off, none⟩) := by rw [he]; simp only [concV, hg, add_lit, Nat.zero_add]
      have hcl := RowL.len_eq (P := P) r
      have turn : ∀ (r' : R) (vs : List Value), RowT.ty r' = RowT.ty r → RowT.len r' = RowT.len r → i * sz + off + vs.length ≤ RowT.len r * P.cellsOf (RowT.ty r) → flat r' = (flat r).take (i * sz + off) ++ vs ++ (flat r).drop (i * sz + off + vs.length) →
          HOK P w0 L st.nx ((id, .rows (k + 1) r') :: st.hp) g (w.setRow b (cur.toList.take (i * sz + off) ++ vs ++ cur.toList.drop (i * sz + off + vs.length)).toArray) := fun r' vs ht hl hf hfl =>
        h.heap.turn (b := .rows (k + 1) r) (b' := .rows (k + 1) r') hb trivial trivial (by rw [hblk]; exact grown_setRow w b _) (by simp [idsB])
          (by simp only [BlkOK]; rw [ht, hl, hfl]; exact own_store hown hg hh hf) (fun _ => Iff.rfl) (fun _ hn => hn)
      split at hp
      · rename_i ys
        split at hp
        · rename_i vs hvs
          cases hc : (isStruct P t && Nat.beq off 0 && Nat.beq t (RowT.ty r)) with
          | false => rw [hc] at hp; simp at hp
          | true =>
            rw [hc] at hp
            simp only [cond_true] at hp
            split at hp
            · rename_i r' hr'
              simp only [Option.some.injEq, Prod.mk.injEq] at hp
              obtain ⟨_, hp⟩ := hp
              simp only [Bool.and_eq_true] at hc
              obtain ⟨⟨hs, h0⟩, ht⟩ := hc
              obtain ⟨fs, hu⟩ := isStruct_of hs
              obtain ⟨inf, hinf⟩ := info_of hu
              obtain rfl := beq_true h0
              have ht' := beq_true ht
              obtain ⟨hcel, hty⟩ := RowL.set_eq (P := P) r r' i vs hr'
              have hlen' : RowT.len r' = RowT.len r := by rw [RowL.len_eq (P := P), hcel, List.length_set, ← hcl]
              have hvl : vs.length = P.cellsOf (RowT.ty r) := by
                have : vs ∈ RowT.cel r' := by rw [hcel]; exact List.mem_set (by omega) vs
                rw [cel_len P this, hty]
              have hmap : ys.map (conc g) = vs.map Sc.v := vals_conc hvs
              have hfl : flat r' = (flat r).take (i * sz + 0) ++ vs.map Sc.v ++ (flat r).drop (i * sz + 0 + (vs.map Sc.v).length) := by
                rw [flat, hcel, flatten_set _ (fun c hc => cel_len P hc) i vs (by omega), flat]
                simp only [List.map_append, List.map_take, List.map_drop, Nat.add_zero, List.length_map, hsz, hvl]
              refine fin ?_ hdst (turn r' (vs.map Sc.v) hty hlen' (by simp [hvl]; omega) hfl) (Same.cons (.inr (.inr (.inr ⟨_, r', r, rfl, hb, hlen', hty⟩)))) hp.symm (id := id) (by rw [hv]; simp [idOf]) hblk (grown_setRow w b _)
              rw [he', he2]
              exact run_storeAt (P := P) hinf (v := concV g (.w (.ag ys))) (by simp only [concV, concW, Value.cells]; exact hmap) (by simp [hvl, ht']) hh (by simp [hvl]; omega) (fun u hu => by
                obtain ⟨s, _, rfl⟩ := List.mem_map.1 hu; exact s.one)
            · simp at hp
        · simp at hp
      · rename_i y1
        split at hp
        · rename_i s hs
          cases ho : isOne P t with
          | false => rw [ho] at hp; simp at hp
          | true =>
            rw [ho] at hp
            simp only [cond_true] at hp
            split at hp
            · rename_i c0 hc0
              split at hp
              · rename_i r' hr'
                simp only [Option.some.injEq, Prod.mk.injEq] at hp
                obtain ⟨_, hp⟩ := hp
                obtain ⟨hsz1, _, inf, hinf⟩ := isOne_of (P := P) (w := w) ho
                rw [nth_eq] at hc0
                have hel := elt_len P hlt
                have hoff : off < (RowT.elt r i).length := by
                  rcases Nat.lt_or_ge off (RowT.elt r i).length with q | q
                  · exact q
                  · rw [List.getElem?_eq_none q] at hc0; simp at hc0
                obtain ⟨hcel, hty⟩ := RowL.set_eq (P := P) r r' i _ hr'
                have hlen' : RowT.len r' = RowT.len r := by rw [RowL.len_eq (P := P), hcel, List.length_set, ← hcl]
                have hfl : flat r' = (flat r).take (i * sz + off) ++ [s.v] ++ (flat r).drop (i * sz + off + [s.v].length) := by
                  rw [flat, hcel, setAt_eq, flatten_set1 _ (fun c hc => cel_len P hc) i off _ s (RowL.elt_eq (P := P) r i hlt) (by omega), List.map_set, ← flat, List.set_eq_take_append_cons_drop, if_pos (by rw [flat_length (P := P)]; have hp2 := hpos; rw [hsz] at hp2; omega), hsz]
                  simp
                refine fin ?_ hdst (turn r' [s.v] hty hlen' (by simp; omega) hfl) (Same.cons (.inr (.inr (.inr ⟨_, r', r, rfl, hb, hlen', hty⟩)))) hp.symm (id := id) (by rw [hv]; simp [idOf]) hblk (grown_setRow w b _)
                rw [he', he2]
                have hcv : concV g (.w (.c y1)) = s.v := val_conc hs
                exact run_storeAt (P := P) hinf (v := concV g (.w (.c y1))) (by rw [hcv, cells_one s.one]) (by simp [hsz1]) hh (by simp; omega) (fun u hu => by simp at hu; rw [hu]; exact s.one)
              · simp at hp
            · simp at hp
        · simp at hp
    · simp at hp
  · simp at hp
end
end Go.Proofs.YtmfgajbkcnlkcaaGreat.AI
namespace Go.Proofs.YtmfgajbkcnlkcaaGreat.AI
set_option linter.all false
open Go Go.RowKit
theorem fold_set : ∀ (vs : List Value) (off j : Nat) (cs : Array Value), off + j + vs.length ≤ cs.size →
    (vs.zipIdx j).foldl (fun cs (p : Value × Nat) => cs.setIfInBounds (off + p.2) p.1) cs = (cs.toList.take (off + j) ++ vs ++ cs.toList.drop (off + j + vs.length)).toArray
  | [], off, j, cs, _ => by simp
  | v :: vs, off, j, cs, h => by
    have h' : off + j < cs.size := by simp at h; omega
    rw [List.zipIdx_cons, List.foldl_cons, fold_set vs off (j + 1) _ (by simp at h ⊢; omega)]
    congr 1
    simp only [Array.toList_setIfInBounds]
    have hl : off + j < cs.toList.length := by simpa using h'
    rw [List.set_eq_take_append_cons_drop, if_pos hl]
    have e1 : (cs.toList.take (off + j)).length = off + j := by rw [List.length_take]; omega
    have e2 : (cs.toList.take (off + j) ++ v :: cs.toList.drop (off + j + 1)).take (off + (j + 1)) = cs.toList.take (off + j) ++ [v] := by
      rw [List.take_append, e1, List.take_of_length_le (by omega), show off + (j + 1) - (off + j) = 1 by omega]; simp
    have e3 : (cs.toList.take (off + j) ++ v :: cs.toList.drop (off + j + 1)).drop (off + (j + 1) + vs.length) = cs.toList.drop (off + j + (v :: vs).length) := by
      rw [List.drop_append, e1, List.drop_eq_nil_of_le (by omega), show off + (j + 1) + vs.length - (off + j) = vs.length + 1 by omega]
      simp only [List.drop_succ_cons, List.nil_append, List.drop_drop, List.length_cons]
      congr 1; omega
    rw [e2, e3]; simp
theorem fill_step {place : Nat → Option (Nat × Nat)} {cells : Array Value} {i off sz : Nat} {v : Value} {vs : List Value} {rest : List (Nat × Value)} (hp : place i = some (off, sz)) (hv : v.cells.toList = vs) (hl : vs.length = sz) (hf : off + sz ≤ cells.size) :
    Instr.fill place cells ((i, v) :: rest) = Instr.fill place (cells.toList.take off ++ vs ++ cells.toList.drop (off + sz)).toArray rest := by
  have hs : v.cells.size = sz := by rw [← hl, ← hv]; simp
  have := fold_set vs off 0 cells (by omega)
  simp only [Nat.add_zero] at this
  rw [Instr.fill, hp]
  dsimp only
  rw [if_neg (by rw [hs]; simp; omega)]
  congr 1
  rw [← hl, ← this, ← hv, ← Array.foldl_toList, Array.toList_zipIdx]
section
variable {R : Type} [RowT R] {P : Program} [RowL P R] {w0 : World} {L : Nat → Prop} {g0 : Nat → Value} {hp0 : List (Blk R)} {st st' : St R} {g : Nat → Value} {a : Act} {w w' : World} {o : Oper}
variable {K : Act → World → Prop} {Q : Exit → Act → World → Prop} {ts : List Tst}
theorem places_plain : ∀ (fs : List Field) (n : Nat), plainF P fs n = true → ∃ ps, fs.mapM (fun f => (P.info? f.type).map fun i => (f.offset, i.size)) = some ps ∧ ps.length = fs.length ∧ ∀ j, j < ps.length → ps[j]? = some (n + j, 1)
  | [], n, _ => ⟨[], by simp, rfl, by simp⟩
  | f :: fs, n, h => by
    simp only [plainF, Bool.and_eq_true] at h
    obtain ⟨⟨h1, h2⟩, h3⟩ := h
    obtain ⟨ps, h4, h5, h6⟩ := places_plain fs (n + 1) h3
    have h2' := beq_true h2
    cases hi : P.info? f.type with
    | none => simp [Program.cellsOf, hi] at h2'
    | some i =>
      have hsz : i.size = 1 := by simpa [Program.cellsOf, hi] using h2'
      refine ⟨(n, 1) :: ps, by simp [List.mapM_cons, hi, h4, hsz, beq_true h1], by simp [h5], fun j hj => ?_⟩
      cases j with
      | zero => simp
      | succ j => rw [List.getElem?_cons_succ, h6 j (by simpa using hj)]; congr 2; omega
theorem parts_ok (h : Inv P w0 L g0 hp0 st g a w) {place : Nat → Option (Nat × Nat)} : ∀ (ps : List (Nat × Operand)) (cs cs' : List C), parts st ps cs = some cs' → (∀ j, j < cs.length → place j = some (j, 1)) → (∀ id ∈ cs.flatMap idsC, id < st.nx) →
    Instr.fill place (cs.map (conc g)).toArray (ps.map fun p => (p.1, a.eval p.2)) = some (cs'.map (conc g)).toArray ∧ (∀ id ∈ cs'.flatMap idsC, id < st.nx)
  | [], cs, cs', hp, _, hi => by simp only [parts, Option.some.injEq] at hp; subst hp; exact ⟨rfl, hi⟩
  | (i, x) :: ps, cs, cs', hp, hpl, hi => by
    simp only [parts] at hp
    split at hp
    · rename_i y hy
      split at hp
      · rename_i c0 hc0
        rw [nth_eq] at hc0
        have hlt : i < cs.length := by
          rcases Nat.lt_or_ge i cs.length with q | q
          · exact q
          · rw [List.getElem?_eq_none q] at hc0; simp at hc0
        obtain ⟨he, hids, _⟩ := h.ev (x := x) (by rw [hy]; simp)
        rw [hy] at he hids
        have hy1 : ∀ j ∈ idsC y, j < st.nx := by simpa [idsV, idsW] using hids
        rw [setAt_eq] at hp
        obtain ⟨h1, h2⟩ := parts_ok h ps (cs.set i y) cs' hp (by simpa using hpl) (fun j hj => by
          obtain ⟨c, hc, hq⟩ := List.mem_flatMap.1 hj
          rcases List.mem_or_eq_of_mem_set hc with h5 | rfl
          · exact hi j (List.mem_flatMap.2 ⟨c, h5, hq⟩)
          · exact hy1 j hq)
        refine ⟨?_, h2⟩
        rw [List.map_cons, fill_step (hpl i hlt) (v := a.eval x) (vs := [conc g y]) (by rw [he]; simp only [concV, concW]; rw [cells_one (oneC h.heap.one hy1)]) rfl (by simp; omega)]
        rw [← h1]
        congr 2
        rw [List.map_set, List.set_eq_take_append_cons_drop, if_pos (by simpa using hlt)]
        simp
      · simp at hp
    · simp at hp
omit [RowL P R] in
theorem parts_congr {st1 st : St R} (h : ∀ x, AI.ev st1 x = AI.ev st x) : ∀ (ps : List (Nat × Operand)) (cs : List C), parts st1 ps cs = parts st ps cs
  | [], _ => rfl
  | (i, x) :: ps, cs => by
    have ih := parts_congr h ps
    simp only [parts, h x, ih]
theorem wp_buildOp {t : TypeId} {ps : Array (Nat × Operand)} (hop : o.op = .build t ps) (h : Inv P w0 L g0 hp0 st g a w) {cs cs' : List C} {st1 : St R} (hz : zeroOf P t st = some (st1, cs)) (hps : parts st ps.toList cs = some cs')
    (hpl : plainS P t cs.length = true) (hp : st1.put o.dst (.w (.ag cs')) = some st') : Eff P w0 L g0 hp0 st st' g a w o := by
  obtain ⟨g1, fs, i, z, h1, hu, hi, hiz, hc, hids, hev, hg1, _⟩ := zeroOf_ok h hz
  unfold plainS at hpl
  rw [hu] at hpl
  simp only [Bool.and_eq_true] at hpl
  obtain ⟨hpl, hlen⟩ := hpl
  have hlen' := beq_true hlen
  obtain ⟨pl, hm, hpln, hplj⟩ := places_plain fs.toList 0 hpl
  have hparts : parts st1 ps.toList cs = some cs' := by
    rw [← hps]; exact parts_congr hev _ _
  obtain ⟨hf, hids'⟩ := parts_ok h1 (place := (pl.toArray[·]?)) ps.toList cs cs' hparts (fun j hj => by
    have hj' : j < pl.length := by rw [hpln]; simp; omega
    have := hplj j hj'
    simpa using this) hids
  have hb : P.built t (ps.map fun (i, x) => (i, a.eval x)).toList = some (cs'.map (conc g1)).toArray := by
    unfold Program.built
    simp only [hi, hu, hiz, hm, Value.cells]
    rw [← hf]
    congr 1
    · rw [hc]
    · simp
  refine eff_n (g' := g1) (v := .agg (cs'.map (conc g1)).toArray) (w' := w) (by rw [hop]; rfl) (.inl ?_) (h1.put hp (fun _ => rfl) (by simpa [idsV, idsW] using hids') trivial) hg1 (Tch.refl _ _ _)
  unfold execOp; rw [hop]
  simp [run_build w t _ _ hb]
theorem elems_ok (h : Inv P w0 L g0 hp0 st g a w) {sz : Nat} : ∀ (ps : List (Nat × Operand)) (n : Nat) (r r' : R) (cells : Array Value), elems st ps n r = some r' → n = RowT.len r → P.cellsOf (RowT.ty r) = sz → (n + ps.length) * sz ≤ cells.size → cells.toList.take (n * sz) = flat r →
    ∃ cells', Instr.fill (fun i => some (i * sz, sz)) cells (ps.map fun p => (p.1, a.eval p.2)) = some cells' ∧ cells'.size = cells.size ∧ cells'.toList.take ((n + ps.length) * sz) = flat r' ∧ RowT.len r' = n + ps.length ∧ RowT.ty r' = RowT.ty r
  | [], n, r, r', cells, he, hn, hs, hf, ht => by
    simp only [elems, Option.some.injEq] at he; subst he
    exact ⟨cells, rfl, rfl, by simpa using ht, by simp [hn], rfl⟩
  | (i, x) :: ps, n, r, r', cells, he, hn, hs, hf, ht => by
    simp only [elems] at he
    cases hi : Nat.beq i n with
    | false => rw [hi] at he; simp at he
    | true =>
      rw [hi] at he
      obtain rfl := beq_true hi
      simp only [cond_true] at he
      split at he
      · rename_i y hy
        split at he
        · rename_i vs hvs
          split at he
          · rename_i r1 hr1
            obtain ⟨hcel, hty⟩ := RowL.snoc_eq (P := P) r r1 vs hr1
            have hlen : RowT.len r1 = i + 1 := by rw [RowL.len_eq (P := P), hcel, List.length_append, ← RowL.len_eq (P := P), ← hn]; rfl
            have hvl : vs.length = sz := by
              have : vs ∈ RowT.cel r1 := by rw [hcel]; simp
              rw [cel_len P this, hty, hs]
            have hfl : flat r1 = flat r ++ vs.map Sc.v := by simp [flat, hcel]
            obtain ⟨hev, hids, _⟩ := h.ev (x := x) (by rw [hy]; simp)
            rw [hy] at hev hids
            have hc : (a.eval x).cells.toList = vs.map Sc.v := by
              rw [hev]; simp only [concV]; rw [cellsW h.heap.one (by simpa [idsV] using hids)]; exact vals_conc hvs
            have hsz : (i + (ps.length + 1)) * sz ≤ cells.size := by simpa using hf
            have hsz2 : i * sz + sz ≤ cells.size := by rw [← Nat.succ_mul]; exact Nat.le_trans (Nat.mul_le_mul_right _ (by omega)) hsz
            have e1 : (cells.toList.take (i * sz)).length = i * sz := by rw [List.length_take, Array.length_toList]; omega
            obtain ⟨cells', h1, h2, h3, h4, h5⟩ := elems_ok h ps (i + 1) r1 r' (cells.toList.take (i * sz) ++ vs.map Sc.v ++ cells.toList.drop (i * sz + sz)).toArray he hlen.symm (by rw [hty, hs])
              (by
                simp only [List.size_toArray, List.length_append, e1, List.length_map, List.length_drop, Array.length_toList, hvl]
                rw [show i + 1 + ps.length = i + (ps.length + 1) by omega]; omega)
              (by
                rw [hfl, ← ht, Nat.succ_mul, List.take_append, List.take_of_length_le (by simp [hvl]; omega)]
                simp [hvl]; omega)
            refine ⟨cells', ?_, ?_, ?_, by rw [h4, List.length_cons]; omega, h5.trans hty⟩
            · rw [List.map_cons, fill_step (off := i * sz) (sz := sz) rfl hc (by simp [hvl]) hsz2]; exact h1
            · rw [h2]; simp only [List.size_toArray, List.length_append, e1, List.length_map, List.length_drop, Array.length_toList, hvl]; omega
            · rw [← h3, List.length_cons]; congr 2; omega
          · simp at he
        · simp at he
      · simp at he
theorem wp_buildSlice {t e : TypeId} {n : Nat} {ps : Array (Nat × Operand)} (hop : o.op = .buildSlice t n ps) (h : Inv P w0 L g0 hp0 st g a w) (hu : P.underlying t = some (.slice e)) {r0 r : R} (hr0 : RowT.nil e = some r0)
    (hr : elems st ps.toList 0 r0 = some r) (hn : n = ps.size) (hb : n * P.cellsOf e ≤ 16777216) (hp : AI.newRows st o.dst r = some st') : Eff P w0 L g0 hp0 st st' g a w o := by
  obtain ⟨hc0, ht0⟩ := RowL.nil_eq (P := P) e r0 hr0
  have hl0 : RowT.len r0 = 0 := by rw [RowL.len_eq (P := P), hc0]; rfl
  obtain ⟨i, z, hi, hz, hzs, hsp, _, _⟩ := RowL.info (P := P) r0
  rw [ht0] at hi
  have hce : P.cellsOf e = i.size := by simp [Program.cellsOf, hi]
  have key : ∀ cells : Array Value, cells.size = n * P.cellsOf e → ∃ cells', Instr.fill (fun j => some (j * P.cellsOf e, P.cellsOf e)) cells (ps.toList.map fun p => (p.1, a.eval p.2)) = some cells' ∧ cells'.size = n * P.cellsOf e ∧ cells'.toList = flat r ∧ RowT.len r = n ∧ RowT.ty r = e := by
    intro cells hs
    obtain ⟨cells', h1, h2, h3, h4, h5⟩ := elems_ok h (sz := P.cellsOf e) ps.toList 0 r0 r cells hr hl0.symm (by rw [ht0]) (by rw [hs, hn]; simp) (by simp [flat, hc0])
    refine ⟨cells', h1, by rw [h2, hs], ?_, by rw [h4, hn]; simp, h5.trans ht0⟩
    rw [← h3, List.take_of_length_le]
    rw [Array.length_toList, h2, hs, hn]; simp
  have run : ∃ cells', (Instr.buildSlice t n (ps.map fun (i, x) => (i, a.eval x))).run P w = .ok (.slice (some ⟨w.heap.size, 0, none⟩) n n) (w.alloc (.cells cells' e)) ∧ cells'.size = n * P.cellsOf e ∧ cells'.toList = flat r ∧ RowT.len r = n ∧ RowT.ty r = e := by
    have hlim : ¬ (16777216 < n * P.cellsOf e) := by omega
    by_cases h0 : n * P.cellsOf e = 0
    · obtain ⟨cells', h1, h2⟩ := key #[] (by simp [h0])
      refine ⟨cells', ?_, h2⟩
      have hn0 : n = 0 := by
        rcases Nat.mul_eq_zero.1 h0 with q | q
        · exact q
        · rw [hce] at q; omega
      have hps : ps = #[] := Array.eq_empty_of_size_eq_zero (by rw [← hn, hn0])
      subst hps
      subst hn0
      simp only [List.map_nil, Instr.fill, Option.some.injEq] at h1
      subst h1
      simp [Instr.buildSlice, run_underlying hu, run_size hi, newRow, Instr.fill, Array.range_zero']
    · obtain ⟨cells', h1, h2⟩ := key ((Array.range (n * P.cellsOf e)).map fun j => z.cells[j % z.cells.size]!) (by simp)
      refine ⟨cells', ?_, h2⟩
      simp [Instr.buildSlice, run_underlying hu, run_size hi, hlim, h0, newRow, run_zero hi hz, h1]
  obtain ⟨cells', hrun, hsz, hfl, hlen, hty⟩ := run
  have hmax : n ≤ maxLen := by
    have : n ≤ n * P.cellsOf e := Nat.le_mul_of_pos_right n (by rw [hce]; omega)
    simp only [maxLen]; omega
  have hown := World.ownsRow_lit (base := w0.heap.size) (e := e) (size := P.cellsOf e) w cells' n h.heap.frame.size hmax hsz
  obtain ⟨g', hg', hg2⟩ := h.newRows hp (World.grownBy_alloc w (.cells cells' e) none) (by simp) (c := .slice (some ⟨w.heap.size, 0, none⟩) n n) (by rw [hty, hlen, ← hfl]; exact hown) (fun m hm => .inl (by simp [blkOf] at hm; omega))
  refine eff_n (w' := w.alloc (.cells cells' e)) (by rw [hop]; rfl) (.inl ?_) hg' hg2 (Tch.grown (World.grownBy_alloc w _ none) (by simp))
  unfold execOp; rw [hop]
  simp [hrun]
end
end Go.Proofs.YtmfgajbkcnlkcaaGreat.AI
namespace Go.Proofs.YtmfgajbkcnlkcaaGreat.AI
set_option linter.all false
open Go Go.RowKit
section
variable {R : Type} [RowT R] {P : Program} [RowL P R] {w0 : World} {L : Nat → Prop} {g0 : Nat → Value} {hp0 : List (Blk R)} {st st' : St R} {g : Nat → Value} {a : Act} {w w' : World} {o : Oper}
variable {K : Act → World → Prop} {Q : Exit → Act → World → Prop} {ts : List Tst}
theorem binV_run {op : BinOp} {u v : V} {c : C} (t : TypeId) (h : binV (isBool P t) op u v = some (ts, c)) (ht : ∀ t ∈ ts, t.p) : (∀ x y, (eqGuard op t x y (concV g u) (concV g v)).run P w = .ok () w) ∧ (binOp op t (concV g u) (concV g v)).run P w = .ok (conc g c) w ∧ idsC c = [] := by
  unfold binV at h
  split at h
  · split at h
    · rename_i hk
      subst hk
      obtain ⟨h1, h2⟩ := binI_run (g := g) (P := P) (w := w) h ht t
      refine ⟨fun x y => ?_, h1, h2⟩
      simp only [concV, concW, conc, Sc.v, eqGuard]
      split <;> simp
    · simp at h
  · rename_i x y _
    split at h
    · rename_i a b hx hy
      have ex := val_conc (g := g) hx
      have ey := val_conc (g := g) hy
      simp only [Sc.v] at ex ey
      have hu : P.underlying t = some .bool := by
        cases hb : isBool P t with
        | false => rw [hb] at h; simp at h
        | true => unfold isBool at hb; split at hb <;> first | assumption | simp at hb
      have hq := run_equal_bool (P := P) w t a b hu
      rw [show isBool P t = true by simp [isBool, hu]] at h
      simp only [cond_true] at h
      split at h
      · simp only [Option.some.injEq, Prod.mk.injEq] at h; obtain ⟨rfl, rfl⟩ := h
        refine ⟨fun x' y' => ?_, ?_, rfl⟩
        · simp only [concV, concW, ex, ey, eqGuard]; split <;> simp
        · show (binOp .eql t (conc g x) (conc g y)).run P w = _
          have hq' : (Op.equal t (.bool a) (.bool b)).run P w = .ok (a == b) w := hq
          rw [ex, ey]; simp [binOp, conc, Sc.v, hq', bne]
      · simp only [Option.some.injEq, Prod.mk.injEq] at h; obtain ⟨rfl, rfl⟩ := h
        refine ⟨fun x' y' => ?_, ?_, rfl⟩
        · simp only [concV, concW, ex, ey, eqGuard]; split <;> simp
        · show (binOp .neq t (conc g x) (conc g y)).run P w = _
          have hq' : (Op.equal t (.bool a) (.bool b)).run P w = .ok (a == b) w := hq
          rw [ex, ey]; simp [binOp, conc, Sc.v, hq', bne]
      · simp at h
    · simp at h
  · simp at h
theorem unV_run {op : UnOp} {v : V} {c : C} (h : unV op v = some c) : (Op.unary op (concV g v)).run P w = .ok (conc g c) w ∧ idsC c = [] := by
  unfold unV at h
  split at h
  · rename_i x
    split at h <;> simp only [Option.some.injEq, reduceCtorEq] at h <;> subst h <;> simp [concV, concW, conc, Sc.v, Op.unary, Op.intArith, idsC, wr_eq]
  · simp at h
theorem offOf_ok {fs : Array Field} {f k : Nat} (h : offOf P fs.toList f = some k) : ∃ x i, fs[f]? = some x ∧ P.info? x.type = some i ∧ P.cellsOf x.type = 1 ∧ x.offset = k := by
  unfold offOf at h
  split at h
  · rename_i x hx
    rw [nth_eq] at hx
    cases hb : Nat.beq (P.cellsOf x.type) 1 with
    | false => rw [hb] at h; simp at h
    | true =>
      rw [hb] at h
      simp only [cond_true, Option.some.injEq] at h
      have hc := beq_true hb
      cases hi : P.info? x.type with
      | none => simp [Program.cellsOf, hi] at hc
      | some i => exact ⟨x, i, by simpa using hx, hi, hc, h⟩
  · simp at h
theorem run_fieldAt {s : TypeId} {fs : Array Field} {f k : Nat} (hu : P.underlying s = some (.struct fs)) (hf : offOf P fs.toList f = some k) (ad : Addr) : (Instr.fieldAt s (.pointer (some ad)) f).run P w = .ok (.pointer (some (ad.add k))) w := by
  obtain ⟨x, i, h1, h2, h3, h4⟩ := offOf_ok hf
  subst h4
  simp [Instr.fieldAt, run_underlying hu, h1, Instr.sureAddr, fieldPlace, run_size h2, h3]
theorem wp_fieldAddr {s : TypeId} {x : Operand} {f : Nat} (hop : o.op = .fieldAddr s x f) (h : Inv P w0 L g0 hp0 st g a w) (hp : pop P o st = some (ts, st')) : Eff P w0 L g0 hp0 st st' g a w o := by
  unfold pop at hp
  rw [hop] at hp
  dsimp only at hp
  have hex : execOp a.eval o = (do pure (Next.value (← Instr.fieldAt s (a.eval x) f))) := by unfold execOp; rw [hop]
  split at hp
  · rename_i fs id off hu hv
    split at hp
    · rename_i k t' cs hk hb
      cases h0 : Nat.beq off 0 with
      | false => rw [h0] at hp; simp at hp
      | true =>
        rw [h0] at hp
        obtain rfl := beq_true h0
        simp only [cond_true] at hp
        split at hp <;> simp only [Option.some.injEq, Prod.mk.injEq, reduceCtorEq] at hp
        rename_i s1 hs1
        obtain ⟨_, rfl⟩ := hp
        obtain ⟨he, hi, _⟩ := h.ev (x := x) (by rw [hv]; simp)
        rw [hv] at he hi
        obtain ⟨b, hg, _, _⟩ := h.heap.blk _ _ hb
        refine eff_q (v := .pointer (some ⟨b, k, none⟩)) (h.put hs1 (fun _ => by simp only [concV, hg]) (by simpa [idsV] using hi) trivial) (ld_here h o) (fun w1 _ => ?_)
        rw [hex, he]
        simp only [concV, hg]
        simp [run_fieldAt hu hk, add_lit]
    · simp at hp
  · rename_i fs id sz i off hu hv
    split at hp
    · rename_i k kk r hk hb
      cases h0 : Nat.beq off 0 with
      | false => rw [h0] at hp; simp at hp
      | true =>
        rw [h0] at hp
        obtain rfl := beq_true h0
        simp only [cond_true] at hp
        split at hp <;> simp only [Option.some.injEq, Prod.mk.injEq, reduceCtorEq] at hp
        rename_i s1 hs1
        obtain ⟨_, rfl⟩ := hp
        obtain ⟨he, hi, hep⟩ := h.ev (x := x) (by rw [hv]; simp)
        rw [hv] at he hi hep
        obtain ⟨hlt, _⟩ := hep _ r hb
        obtain ⟨ad, n, cap, hg, _, _⟩ := rowCell (h.heap.blk _ _ hb) (Nat.lt_of_le_of_lt (Nat.zero_le _) hlt)
        refine eff_q (v := .pointer (some (ad.add (i * sz + k)))) (h.put hs1 (fun _ => by simp only [concV, hg]) (by simpa [idsV] using hi) hep) (ld_here h o) (fun w1 _ => ?_)
        rw [hex, he]
        simp only [concV, hg]
        simp [run_fieldAt hu hk, add_add]
    · simp at hp
  · simp at hp
theorem run_indexAt {t e : TypeId} {inf : TypeInfo} (hu : P.underlying t = some (.slice e)) (hi : P.info? e = some inf) {ad : Addr} {n cap : Nat} {k : IntKind} {i : Int} (h0 : 0 ≤ i) (h1 : i < n) :
    (Instr.indexAt t (.slice (some ad) n cap) (.int k i)).run P w = .ok (.pointer (some (ad.add (i.toNat * inf.size)))) w := by
  simp [Instr.indexAt, run_underlying hu, asIntOf, h0, h1, sizeOf, typeInfo, hi]
theorem wp_indexAddr {t : TypeId} {x y : Operand} (hop : o.op = .indexAddr t x y) (h : Inv P w0 L g0 hp0 st g a w) (hp : pop P o st = some (ts, st')) (ht : ∀ t ∈ ts, t.p) : Eff P w0 L g0 hp0 st st' g a w o := by
  unfold pop at hp
  rw [hop] at hp
  dsimp only at hp
  have hex : execOp a.eval o = (do pure (Next.value (← Instr.indexAt t (a.eval x) (a.eval y)))) := by unfold execOp; rw [hop]
  split at hp
  · rename_i e id k n hu hv hy
    split at hp
    · rename_i kk r inf hb hinf
      cases hbe : Nat.beq e (RowT.ty r) with
      | false => rw [hbe] at hp; simp at hp
      | true =>
      rw [hbe] at hp
      simp only [cond_true] at hp
      have hte := beq_true hbe
      split at hp
      · rename_i s1 hs1
        simp only [Option.some.injEq, Prod.mk.injEq] at hp
        obtain ⟨rfl, rfl⟩ := hp
        have h0 : 0 ≤ n := ht ⟨0 ≤ n, inferInstance⟩ (by simp)
        have h1 : n < (RowT.len r : Nat) := ht ⟨n < (RowT.len r : Nat), inferInstance⟩ (by simp)
        obtain ⟨he, hi, _⟩ := h.ev (x := x) (by rw [hv]; simp)
        obtain ⟨he2, _, _⟩ := h.ev (x := y) (by rw [hy]; simp)
        rw [hv] at he hi
        rw [hy] at he2
        have hlt : n.toNat < RowT.len r := by omega
        obtain ⟨ad, m, cap, hg, hm, _⟩ := rowCell (h.heap.blk _ _ hb) (by omega)
        refine eff_q (v := .pointer (some (ad.add (n.toNat * inf.size)))) (h.put hs1 (fun _ => by simp only [concV, hg, Nat.add_zero]) (by simpa [idsV, idsW, idsC] using hi) (fun k' r' hr' => ?_)) (ld_here h o) (fun w1 _ => ?_)
        · rw [hb] at hr'
          simp only [Option.some.injEq, Blk.rows.injEq] at hr'
          obtain ⟨_, rfl⟩ := hr'
          exact ⟨hlt, by rw [← hte]; simp [Program.cellsOf, hinf]⟩
        · rw [hex, he, he2]
          simp only [concV, concW, conc, Sc.v, hg]
          simp [run_indexAt hu hinf h0 (show n < (m : Nat) by rw [hm]; exact h1)]
      · simp at hp
    · simp at hp
  · simp at hp
theorem lim_ok {n bytes : Nat} (h : n < lim bytes) (hb : 0 < bytes) : n * bytes ≤ 140737488355328 := by
  unfold lim at h
  have h1 : n ≤ 140737488355328 / bytes := by omega
  exact Nat.le_trans (Nat.mul_le_mul_right _ h1) (Nat.div_mul_le_self _ _)
theorem limM_ok {n bytes : Nat} (h : n < limM bytes) (hb : 0 < bytes) : n * bytes ≤ 281474976710656 := by
  unfold limM at h
  have h1 : n ≤ 281474976710656 / bytes := by omega
  exact Nat.le_trans (Nat.mul_le_mul_right _ h1) (Nat.div_mul_le_self _ _)
theorem le_mul_pos {n b : Nat} (h : 0 < b) : n ≤ n * b := Nat.le_mul_of_pos_right n h
theorem wp_makeSlice {t : TypeId} {x y : Operand} (hop : o.op = .makeSlice t x y) (h : Inv P w0 L g0 hp0 st g a w) (hp : pop P o st = some (ts, st')) (ht : ∀ t ∈ ts, t.p) : Eff P w0 L g0 hp0 st st' g a w o := by
  unfold pop at hp
  rw [hop] at hp
  dsimp only at hp
  have hex : execOp a.eval o = (do pure (Next.value (← Instr.makeSlice t (a.eval x) (a.eval y)))) := by unfold execOp; rw [hop]
  split at hp
  · rename_i e n m hu hv hy
    split at hp
    · rename_i r inf hr hinf
      split at hp
      · rename_i s1 hs1
        simp only [Option.some.injEq, Prod.mk.injEq] at hp
        obtain ⟨rfl, rfl⟩ := hp
        obtain rfl : n = m := ht ⟨n = m, inferInstance⟩ (by simp)
        have h0 : 0 ≤ n := ht ⟨0 ≤ n, inferInstance⟩ (by simp)
        have h1 : n < (limM inf.bytes : Nat) := ht ⟨n < (limM inf.bytes : Nat), inferInstance⟩ (by simp)
        obtain ⟨he, _, _⟩ := h.ev (x := x) (by rw [hv]; simp)
        obtain ⟨he2, _, _⟩ := h.ev (x := y) (by rw [hy]; simp)
        rw [hv] at he
        rw [hy] at he2
        obtain ⟨hty, i, z, cs, hi, hz, hzc, hcel⟩ := RowL.zer_eq (P := P) e n.toNat r hr
        obtain ⟨i', z', hi', hz', hzs, hsp, hbp, _⟩ := RowL.info (P := P) r
        rw [hty, hi] at hi'
        injection hi' with e1; subst e1
        rw [hz] at hz'
        injection hz' with e2; subst e2
        rw [hi] at hinf
        injection hinf with e3; subst e3
        have hbytes := limM_ok (n := n.toNat) (bytes := i.bytes) (by omega) hbp
        have hn := le_mul_pos (n := n.toNat) hbp
        have hrun := run_make (P := P) w t e i z hu hi hz .i64 .i64 n n h0 (Int.le_refl _) (by
          have : ((i.bytes * n.toNat : Nat) : Int) = (i.bytes : Int) * n := by rw [Int.natCast_mul, Int.toNat_of_nonneg h0]
          rw [← this, Nat.mul_comm]; omega) (by omega)
        have hce : P.cellsOf e = i.size := by simp [Program.cellsOf, hi]
        have hlen : RowT.len r = n.toNat := by rw [RowL.len_eq (P := P), hcel]; simp
        have hcl : cs.length = i.size := by rw [← hzs]; have := congrArg List.length hzc; simpa using this.symm
        have hmc : (madeCells z.cells (n.toNat * i.size)).toList = flat r := by
          simp only [madeCells, flat, hcel, hzs]
          apply List.ext_getElem?
          intro j
          by_cases hj : j < n.toNat * i.size
          · have hd : j / i.size < n.toNat := Nat.div_lt_of_lt_mul (by rw [Nat.mul_comm]; exact hj)
            have hm : j % i.size < i.size := Nat.mod_lt _ hsp
            have hj2 : j = j / i.size * i.size + j % i.size := by rw [Nat.mul_comm]; exact (Nat.div_add_mod j i.size).symm
            have hfa := flatten_at (List.replicate n.toNat cs) (n := i.size) (fun c hc => by rw [List.eq_of_mem_replicate hc]; exact hcl) (j / i.size) (j % i.size) hm
            rw [← hj2] at hfa
            rw [List.getElem?_map, hfa, List.getElem?_replicate, if_pos hd]
            have hzl : z.cells.toList[j % i.size]? = (cs.map Sc.v)[j % i.size]? := by rw [hzc]
            have hzlt : j % i.size < z.cells.size := by rw [hzs]; exact hm
            simp only [Option.bind_some, Array.toList_map, List.getElem?_map]
            rw [List.getElem?_map] at hzl
            rw [← hzl]
            simp [hj, hzlt, Array.getElem?_eq_getElem hzlt]
          · have h3 : ((List.replicate n.toNat cs).flatten.map Sc.v).length ≤ j := by simp [hcl]; omega
            rw [List.getElem?_eq_none h3, List.getElem?_eq_none (by simp; omega)]
        have hown := World.ownsRow_lit (base := w0.heap.size) (e := e) (size := P.cellsOf e) w (madeCells z.cells (n.toNat * i.size)) n.toNat h.heap.frame.size (by simp only [maxLen]; omega) (by rw [size_madeCells, hce])
        obtain ⟨g', hg', hg2⟩ := h.newRows hs1 (World.grownBy_alloc w (.cells (madeCells z.cells (n.toNat * i.size)) e) none) (by simp) (c := .slice (some ⟨w.heap.size, 0, none⟩) n.toNat n.toNat) (by rw [hty, hlen, ← hmc]; exact hown) (fun m hm => .inl (by simp [blkOf] at hm; omega))
        refine eff_n (w' := w.alloc (.cells (madeCells z.cells (n.toNat * i.size)) e)) (by rw [hop]; rfl) (.inl ?_) hg' hg2 (Tch.grown (World.grownBy_alloc w _ none) (by simp))
        rw [hex, he, he2]
        simp only [concV, concW, conc, Sc.v]
        simp [hrun]
      · simp at hp
    · simp at hp
  · simp at hp
theorem wp_append {c : Call} {x y : Operand} {t : TypeId} (hop : o.op = .call c) (hc : c.callee = .builtin .append) (ha : c.args.toList = [x, y]) (hat : c.argTypes.toList = [t, t]) (h : Inv P w0 L g0 hp0 st g a w) {id jd : Nat} {e : TypeId} {r s r' : R} {kk : Nat} {inf : TypeInfo}
    (hx : AI.ev st x = .w (.c (.rw id))) (hy : AI.ev st y = .w (.c (.rw jd))) (hu : P.underlying t = some (.slice e)) (hne : id ≠ jd) (hr : get st.hp id = some (.rows 2 r)) (hs : get st.hp jd = some (.rows kk s)) (hinf : P.info? e = some inf) (hte : e = RowT.ty r)
    (happ : RowT.app r s = some r') (hp : ({ st with nx := st.nx + 1, hp := (st.nx, .rows 2 r') :: (id, .dead) :: st.hp } : St R).put o.dst (.w (.c (.rw st.nx))) = some st') (hl : RowT.len r + RowT.len s < lim inf.bytes) : Eff P w0 L g0 hp0 st st' g a w o := by
  obtain ⟨he, hi, _⟩ := h.ev (x := x) (by rw [hx]; simp)
  obtain ⟨he2, hi2, _⟩ := h.ev (x := y) (by rw [hy]; simp)
  rw [hx] at he hi
  rw [hy] at he2 hi2
  simp only [concV, concW, conc] at he he2
  have hown : w.ownsRow w0.heap.size (RowT.ty r) (P.cellsOf (RowT.ty r)) (g id) (RowT.len r) (flat r) := by simpa [BlkOK] using h.heap.blk _ _ hr
  have hbs := h.heap.blk _ _ hs
  obtain ⟨hcel, hty, hts⟩ := RowL.app_eq (P := P) r s r' happ
  obtain ⟨i, z, hinf', hz, hzs, hsp, hbp, _⟩ := RowL.info (P := P) r
  rw [← hte, hinf] at hinf'
  injection hinf' with e1; subst e1
  have hce : P.cellsOf (RowT.ty r) = inf.size := by rw [← hte]; simp [Program.cellsOf, hinf]
  have hlen : RowT.len r' = RowT.len r + RowT.len s := by rw [RowL.len_eq (P := P), hcel, List.length_append, ← RowL.len_eq (P := P), ← RowL.len_eq (P := P)]
  have hfl : flat r' = flat r ++ flat s := by simp [flat, hcel]
  have hfs : (flat s).length = RowT.len s * inf.size := by rw [flat_length (P := P), hts, hce]
  have hbytes := lim_ok hl hbp
  have hmaxn := le_mul_pos (n := RowT.len r + RowT.len s) hbp
  have hex : execOp a.eval o = (do pure (Next.value (← Builtin.append_ #[t, t] o.type #[g id, g jd]))) := by
    unfold execOp
    rw [hop]
    have h1 : c.args = #[x, y] := by rw [← Array.toArray_toList (xs := c.args), ha]
    have h2 : c.argTypes = #[t, t] := by rw [← Array.toArray_toList (xs := c.argTypes), hat]
    simp only [resolve, hc, h1, h2, List.map_toArray, List.map_cons, List.map_nil, he, he2]
    rfl
  -- what the second one reads
  have run : ∃ v' w', (Builtin.append_ #[t, t] o.type #[g id, g jd]).run P w = .ok v' w' ∧ w'.ownsRow w0.heap.size e inf.size v' (RowT.len r + RowT.len s) (flat r ++ flat s) ∧ w.grownBy w' (g id).ownBlock ∧ (v'.ownBlock = (g id).ownBlock ∨ v'.ownBlock = some w.heap.size) := by
    rw [hce, ← hte] at hown
    by_cases h0 : 0 < RowT.len s
    · obtain ⟨ad, n, cap, hg, hn, hcell⟩ := rowCell hbs h0
      obtain ⟨v', w', h1, h2, h3, _, h5⟩ := run_append_own_at (P := P) w w0.heap.size t o.type e inf z inf.size inf.bytes hu hinf hz rfl rfl hzs hsp (g id) _ _ hown ad (RowT.len s) cap (flat s) hfs hcell
        (fun u hu => by obtain ⟨q, _, rfl⟩ := List.mem_map.1 hu; exact q.one) (by simp only [maxLen]; omega) hbytes h.heap.frame.size
      exact ⟨v', w', by rw [hg, hn]; exact h1, h2, h3, h5⟩
    · have h00 : RowT.len s = 0 := by omega
      have hf0 : flat s = [] := List.eq_nil_of_length_eq_zero (by rw [hfs, h00]; simp)
      have hrun : ∃ A cap, g jd = .slice A 0 cap := by
        cases kk with
        | zero => obtain ⟨A, cap, hg, _⟩ := hbs; exact ⟨A, cap, by rw [hg, h00]⟩
        | succ kk => rcases hbs.2 with ⟨hg, _⟩ | ⟨b, cap, cur, hg, _⟩
                     · exact ⟨none, 0, hg⟩
                     · exact ⟨_, cap, by rw [hg, h00]⟩
      obtain ⟨A, cap, hg⟩ := hrun
      rw [h00, hf0, Nat.add_zero, List.append_nil]
      cases A with
      | none =>
        refine ⟨g id, w, ?_, hown, ⟨rfl, rfl, rfl, Nat.le_refl _, fun _ _ _ => rfl⟩, .inl rfl⟩
        rw [hg]
        rcases hown.2 with ⟨hv, _⟩ | ⟨b, cap', cur, hv, _, _, hnc, _⟩
        · rw [hv]; simp [Builtin.append_, run_underlying hu, sizeOf, typeInfo, hinf, Builtin.lenOf, Builtin.firstCells]
        · rw [hv]; simp [Builtin.append_, run_underlying hu, sizeOf, typeInfo, hinf, Builtin.lenOf, Builtin.firstCells, hnc, storeCells]
      | some ad =>
        obtain ⟨v', w', h1, h2, h3, _, h5⟩ := run_append_own_at (P := P) w w0.heap.size t o.type e inf z inf.size inf.bytes hu hinf hz rfl rfl hzs hsp (g id) _ _ hown ad 0 cap [] (by simp) (by simp) (by simp) (by simp only [maxLen]; omega) (by rw [Nat.add_zero]; exact Nat.le_trans (Nat.mul_le_mul_right _ (Nat.le_add_right _ _)) hbytes) h.heap.frame.size
        simp only [Nat.add_zero, List.append_nil] at h2
        exact ⟨v', w', by rw [hg]; exact h1, h2, h3, h5⟩
  obtain ⟨v', w', hrun, hown', hgr, hat'⟩ := run
  have hown2 : w'.ownsRow w0.heap.size (RowT.ty r') (P.cellsOf (RowT.ty r')) v' (RowT.len r') (flat r') := by rw [hty, hce, hlen, hfl, ← hte]; exact hown'
  have hd := h.heap.drop hr
  have hob : ∀ n, (g id).ownBlock = some n ↔ blkOf (g id) = some n := by
    intro n
    rcases hown.2 with ⟨hv, _⟩ | ⟨b, cap', cur, hv, _⟩ <;> rw [hv] <;> simp [Value.ownBlock, blkOf]
  have hone : v'.oneCell' = true := by rcases hown2.2 with ⟨rfl, _⟩ | ⟨_, _, _, rfl, _⟩ <;> rfl
  have hh := hd.add (b := Blk.rows 2 r') (v := v') (row := (g id).ownBlock) hgr (fun n hn => ⟨h.heap.mutL id _ n hr trivial ((hob n).1 hn), fun i' b' hb' hh' => by
      rw [get_cons] at hb'
      split at hb'
      · simp only [Option.some.injEq] at hb'; subst hb'; exact hh'
      · rename_i hne'
        exact h.heap.sep id _ i' b' n hr hb' hne' trivial ((hob n).1 hn) hh'⟩) (by simp [idsB]) (by simpa [BlkOK, upd_same] using hown2) (fun n hn => ?_) hone
  · have h1 := h.onto hh (Nat.le_succ _) (fun i hi => upd_other g v' (by omega)) ((Same.cons (nx := st.nx) (.inr (.inr (.inl ⟨rfl, r, hr⟩)))).trans (Same.cons (nx := st.nx) (.inl (Nat.le_refl _))) (Nat.le_refl _))
    refine eff_n (v := v') (w' := w') (by rw [hop]; simp [quietOp, hc]) (.inl ?_) (h1.put hp (fun _ => by simp [concV, concW, conc, upd_same]) (by simp [idsV, idsW, idsC]) trivial) (fun i hi => upd_other g v' (by omega)) (Tch.grown hgr fun n hn => ⟨id, by simp [writes, hop, hc, ha, hx, idOf], (hob n).1 hn⟩)
    rw [hex]
    simp [hrun]
  · have hn' : blkOf v' = some n := by simpa [HasB, upd_same] using hn
    have hv' : v'.ownBlock = some n := by rcases hown2.2 with ⟨hv, _⟩ | ⟨b, cap', cur, hv, _⟩ <;> rw [hv] at hn' ⊢ <;> simpa [Value.ownBlock, blkOf] using hn'
    rcases hat' with q | q
    · exact .inr (q.symm.trans hv')
    · rw [hv'] at q; injection q with q; exact .inl (Nat.le_of_eq q.symm)
end
end Go.Proofs.YtmfgajbkcnlkcaaGreat.AI
namespace Go.Proofs.YtmfgajbkcnlkcaaGreat.AI
set_option linter.all false
open Go Go.RowKit
section
variable {R : Type} [RowT R] {P : Program} [RowL P R] {w0 : World} {L : Nat → Prop} {g0 : Nat → Value} {hp0 : List (Blk R)} {st st' : St R} {g : Nat → Value} {a : Act} {w w' : World} {o : Oper}
variable {K : Act → World → Prop} {Q : Exit → Act → World → Prop} {ts : List Tst}
theorem ok_some {s : Option (St R)} (h : (match s with
    | some s => some ([], s)
    | none => none) = some (ts, st')) : s = some st' ∧ ts = [] := by
  cases s with
  | none => simp at h
  | some s => simp only [Option.some.injEq, Prod.mk.injEq] at h; exact ⟨by rw [h.2], h.1.symm⟩
theorem wp_call {c : Call} (hop : o.op = .call c) (h : Inv P w0 L g0 hp0 st g a w) (hp : pop P o st = some (ts, st')) (ht : ∀ t ∈ ts, t.p) : Eff P w0 L g0 hp0 st st' g a w o := by
  unfold pop at hp
  rw [hop] at hp
  dsimp only at hp
  split at hp <;> rename_i hc
  · -- len
    split at hp
    · rename_i x t ha hat
      split at hp
      · rename_i id e hv hu
        split at hp
        · rename_i kk r hb
          obtain ⟨hput, _⟩ := ok_some hp
          obtain ⟨he, hi, _⟩ := h.ev (x := x) (by rw [hv]; simp)
          rw [hv] at he hi
          have hg : ∃ A cap, g id = .slice A (RowT.len r) cap := by
            have hbs := h.heap.blk _ _ hb
            cases kk with
            | zero => obtain ⟨A, cap, hg, _⟩ := hbs; exact ⟨A, cap, hg⟩
            | succ kk => rcases hbs.2 with ⟨hg, h0⟩ | ⟨b, cap, cur, hg, _⟩
                         · exact ⟨none, 0, by rw [hg, h0]⟩
                         · exact ⟨_, cap, hg⟩
          obtain ⟨A, cap, hg⟩ := hg
          have hpu : P.underlying t = some (.slice (P.elem t)) := by rw [hu]; simp [Program.elem, hu]
          refine eff_q (v := .int .i64 (RowT.len r : Nat)) (h.put hput (fun _ => rfl) (by simp [idsV, idsW, idsC]) trivial) (ld_here h o) (fun w1 _ => ?_)
          have h1 : c.args = #[x] := by rw [← Array.toArray_toList (xs := c.args), ha]
          have h2 : c.argTypes = #[t] := by rw [← Array.toArray_toList (xs := c.argTypes), hat]
          unfold execOp
          rw [hop]
          simp only [resolve, hc, h1, h2, List.map_toArray, List.map_cons, List.map_nil, he, concV, concW, conc, hg]
          have := run_len_slice (P := P) w1 t o.type A (RowT.len r) cap hpu
          simp [invoke, builtin, this, goInt]
        · simp at hp
      · simp at hp
    · simp at hp
  · -- min
    split at hp
    · rename_i x y ha
      split at hp
      · rename_i k n k' m hv hy
        split at hp
        · rename_i hk
          subst hk
          obtain ⟨hput, _⟩ := ok_some hp
          obtain ⟨he, hi, _⟩ := h.ev (x := x) (by rw [hv]; simp)
          obtain ⟨he2, _, _⟩ := h.ev (x := y) (by rw [hy]; simp)
          rw [hv] at he
          rw [hy] at he2
          refine eff_q (v := .int k (if m < n then m else n)) (h.put hput (fun _ => rfl) (by simp [idsV, idsW, idsC]) trivial) (ld_here h o) (fun w1 _ => ?_)
          have h1 : c.args = #[x, y] := by rw [← Array.toArray_toList (xs := c.args), ha]
          unfold execOp
          rw [hop]
          simp only [resolve, hc, h1, List.map_toArray, List.map_cons, List.map_nil, he, he2, concV, concW, conc, Sc.v]
          simp [invoke, builtin, Builtin.min_, Builtin.min2]
        · simp at hp
      · simp at hp
    · simp at hp
  · -- append
    split at hp
    · rename_i x y t u ha hat
      split at hp
      · rename_i id jd e hv hy hu
        cases hcc : (Nat.beq t u && !Nat.beq id jd) with
        | false => rw [hcc] at hp; simp at hp
        | true =>
          rw [hcc] at hp
          simp only [cond_true] at hp
          simp only [Bool.and_eq_true, Bool.not_eq_true'] at hcc
          obtain ⟨h1, h2⟩ := hcc
          obtain rfl := beq_true h1
          have hne : id ≠ jd := fun e => by rw [e] at h2; simp at h2
          split at hp
          · rename_i r kk s inf hr hs hinf
            cases hbe : Nat.beq e (RowT.ty r) with
            | false => rw [hbe] at hp; simp at hp
            | true =>
              rw [hbe] at hp
              simp only [cond_true] at hp
              split at hp
              · rename_i r' happ
                split at hp
                · rename_i s1 hs1
                  simp only [Option.some.injEq, Prod.mk.injEq] at hp
                  obtain ⟨rfl, rfl⟩ := hp
                  exact wp_append hop hc ha hat h hv hy hu hne hr hs hinf (beq_true hbe) happ hs1 (ht ⟨RowT.len r + RowT.len s < lim inf.bytes, inferInstance⟩ (by simp))
                · simp at hp
              · simp at hp
          · simp at hp
      · simp at hp
    · simp at hp
  · simp at hp
theorem wp_mv {x : Operand} (hop : o.op = .move x ∨ o.op = .assign x) (h : Inv P w0 L g0 hp0 st g a w)
    (hp : mvOf P o st x = some (ts, st')) : Eff P w0 L g0 hp0 st st' g a w o := by
  unfold mvOf at hp
  have hrun : ∀ w1, (execOp a.eval o).run P w1 = .ok (.value (a.eval x)) w1 := fun w1 => by unfold execOp; rcases hop with hop | hop <;> rw [hop] <;> rfl
  have hev := h.ev (x := x)
  cases hv : AI.ev st x with
  | nl =>
    rw [hv] at hp hev
    obtain ⟨he, _, _⟩ := hev (by simp)
    dsimp only at hp
    cases x with
    | const c =>
    dsimp only at hp
    split at hp
    · rename_i e hu
      split at hp
      · rename_i r hr
        obtain ⟨hput, _⟩ := ok_some hp
        obtain ⟨g', hg', hg2⟩ := h.newRows hput (grown_none w) (by simp) (nil_own hr) (by simp [blkOf])
        refine eff_n (w' := w) ?_ (.inl (hrun w)) (by rw [he]; exact hg') hg2 (Tch.refl _ _ _)
        have : ∃ A n k, c = Value.slice A n k := by
          cases c <;> simp only [AI.ev, reduceCtorEq] at hv
          exact ⟨_, _, _, rfl⟩
        obtain ⟨A, n, k, rfl⟩ := this
        rcases hop with hop | hop <;> rw [hop] <;> rfl
      · simp at hp
    · simp at hp
    | _ => simp at hp
  | no => rw [hv] at hp; simp at hp
  | un => rw [hv] at hp; simp at hp
  | w y => rw [hv] at hp hev; obtain ⟨he, hi, hep⟩ := hev (by simp); exact eff_q (h.put (ok_some hp).1 (fun _ => he) hi hep) (ld_here h o) (fun w1 _ => hrun w1)
  | tu y => rw [hv] at hp hev; obtain ⟨he, hi, hep⟩ := hev (by simp); exact eff_q (h.put (ok_some hp).1 (fun _ => he) hi hep) (ld_here h o) (fun w1 _ => hrun w1)
  | pt i1 i2 => rw [hv] at hp hev; obtain ⟨he, hi, hep⟩ := hev (by simp); exact eff_q (h.put (ok_some hp).1 (fun _ => he) hi hep) (ld_here h o) (fun w1 _ => hrun w1)
  | ep i1 i2 i3 i4 => rw [hv] at hp hev; obtain ⟨he, hi, hep⟩ := hev (by simp); exact eff_q (h.put (ok_some hp).1 (fun _ => he) hi hep) (ld_here h o) (fun w1 _ => hrun w1)
theorem pop_wp (h : Inv P w0 L g0 hp0 st g a w) (hp : pop P o st = some (ts, st')) (ht : ∀ t ∈ ts, t.p) : Eff P w0 L g0 hp0 st st' g a w o := by
  have hp0 := hp
  unfold pop at hp
  dsimp only at hp
  split at hp <;> rename_i hop
  · exact wp_mv (.inl hop) h hp
  · exact wp_mv (.inr hop) h hp
  · -- pick
    rename_i c x y
    have hex : execOp a.eval o = (do pure (.value (if ← asBool (a.eval c) then a.eval x else a.eval y))) := by unfold execOp; rw [hop]
    split at hp
    · rename_i hc
      obtain ⟨he, _, _⟩ := h.ev (x := c) (by rw [hc]; simp)
      rw [hc] at he
      split at hp
      · rename_i q hq
        obtain ⟨he2, hi2, _⟩ := h.ev (x := x) (by rw [hq]; simp)
        rw [hq] at he2 hi2
        refine eff_q (h.put (ok_some hp).1 (fun _ => rfl) hi2 trivial) (ld_here h o) (fun w1 _ => ?_)
        rw [hex, he, he2]
        simp [concV, concW, conc, asBool]
      · simp at hp
    · rename_i hc
      obtain ⟨he, _, _⟩ := h.ev (x := c) (by rw [hc]; simp)
      rw [hc] at he
      split at hp
      · rename_i q hq
        obtain ⟨he2, hi2, _⟩ := h.ev (x := y) (by rw [hq]; simp)
        rw [hq] at he2 hi2
        refine eff_q (h.put (ok_some hp).1 (fun _ => rfl) hi2 trivial) (ld_here h o) (fun w1 _ => ?_)
        rw [hex, he, he2]
        simp [concV, concW, conc, asBool]
      · simp at hp
    · simp at hp
  · -- alloc
    split at hp
    · rename_i s1 cs hz; exact wp_alloc hop h hz (ok_some hp).1
    · simp at hp
  · -- box
    split at hp
    · rename_i y hy; exact wp_box hop h hy (ok_some hp).1
    · simp at hp
  · -- build
    rename_i t ps
    split at hp
    · rename_i s1 cs hz
      split at hp
      · rename_i cs' hps
        cases hb : plainS P t cs.length with
        | false => rw [hb] at hp; simp at hp
        | true => rw [hb] at hp; simp only [cond_true] at hp; exact wp_buildOp hop h hz hps hb (ok_some hp).1
      · simp at hp
    · simp at hp
  · -- buildSlice
    rename_i t n ps
    split at hp
    · rename_i e hu
      split at hp
      · rename_i r0 hr0
        split at hp
        · rename_i r hr
          cases hb : (Nat.beq n ps.size && Nat.ble (n * P.cellsOf e) 16777216) with
          | false => rw [hb] at hp; simp at hp
          | true =>
            rw [hb] at hp
            simp only [cond_true] at hp
            simp only [Bool.and_eq_true] at hb
            exact wp_buildSlice hop h hu hr0 hr (beq_true hb.1) (Nat.le_of_ble_eq_true hb.2) (ok_some hp).1
        · simp at hp
      · simp at hp
    · simp at hp
  · exact wp_load hop h hp0
  · exact wp_store hop h hp0
  · -- nilCheck
    rename_i x
    split at hp
    · rename_i id off hv
      split at hp
      · rename_i t cs hb
        obtain ⟨he, hi, hep⟩ := h.ev (x := x) (by rw [hv]; simp)
        rw [hv] at he hi hep
        obtain ⟨b, hg, _, _⟩ := h.heap.blk _ _ hb
        refine eff_q (v := .pointer (some ⟨b, off, none⟩)) (h.put (ok_some hp).1 (fun _ => by simp only [concV, hg]) hi hep) (ld_here h o) (fun w1 _ => ?_)
        unfold execOp
        rw [hop]
        simp only [he, concV, hg]
        rfl
      · simp at hp
    · simp at hp
  · -- binOp
    rename_i op t x y u
    split at hp
    · rename_i ts1 c hc
      split at hp
      · rename_i s1 hs1
        simp only [Option.some.injEq, Prod.mk.injEq] at hp
        obtain ⟨rfl, rfl⟩ := hp
        obtain ⟨h1, h2, h3⟩ := binV_run (g := g) (P := P) (w := w) t hc ht
        have hx : AI.ev st x ≠ .no := fun e => by rw [e] at hc; simp [binV] at hc
        have hy : AI.ev st y ≠ .no := fun e => by rw [e] at hc; unfold binV at hc; split at hc <;> simp_all
        obtain ⟨he, _, _⟩ := h.ev hx
        obtain ⟨he2, _, _⟩ := h.ev hy
        refine eff_q (v := conc g c) (h.put hs1 (fun _ => rfl) (by simp [idsV, idsW, h3]) trivial) (ld_here h o) (fun w1 _ => ?_)
        obtain ⟨h1, h2, _⟩ := binV_run (g := g) (P := P) (w := w1) t hc ht
        unfold execOp
        rw [hop]
        simp only [he, he2]
        simp [h1, h2]
      · simp at hp
    · simp at hp
  · -- unOp
    rename_i op t x
    split at hp
    · rename_i c hc
      obtain ⟨h2, h3⟩ := unV_run (g := g) (P := P) (w := w) hc
      have hx : AI.ev st x ≠ .no := fun e => by rw [e] at hc; simp [unV] at hc
      obtain ⟨he, _, _⟩ := h.ev hx
      refine eff_q (v := conc g c) (h.put (ok_some hp).1 (fun _ => rfl) (by simp [idsV, idsW, h3]) trivial) (ld_here h o) (fun w1 _ => ?_)
      obtain ⟨h2, _⟩ := unV_run (g := g) (P := P) (w := w1) hc
      unfold execOp
      rw [hop]
      simp only [he]
      simp [h2]
    · simp at hp
  · -- convert
    rename_i s d x
    split at hp
    · rename_i k n k1 k2 hv hs hd
      obtain ⟨he, _, _⟩ := h.ev (x := x) (by rw [hv]; simp)
      rw [hv] at he
      rw [wr_eq] at hp
      refine eff_q (v := .int k2 (k2.wrap n)) (h.put (ok_some hp).1 (fun _ => rfl) (by simp [idsV, idsW, idsC]) trivial) (ld_here h o) (fun w1 _ => ?_)
      unfold execOp
      rw [hop]
      simp only [he, concV, concW, conc, Sc.v]
      simp [convert, run_underlying hs, run_underlying hd, Conv.intToInt]
    · simp at hp
  · exact wp_makeSlice hop h hp0 ht
  · exact wp_fieldAddr hop h hp0
  · exact wp_indexAddr hop h hp0 ht
  · -- extract
    rename_i x k
    split at hp
    · rename_i ws hv
      split at hp
      · rename_i y hy
        rw [nth_eq] at hy
        obtain ⟨he, hi, _⟩ := h.ev (x := x) (by rw [hv]; simp)
        rw [hv] at he hi
        refine eff_q (v := concW g y) (h.put (ok_some hp).1 (fun _ => rfl) (fun id hid => hi id (List.mem_flatMap.2 ⟨y, List.mem_of_getElem? hy, by simpa [idsV] using hid⟩)) trivial) (ld_here h o) (fun w1 _ => ?_)
        unfold execOp
        rw [hop]
        simp only [he, concV]
        simp [Instr.extract, hy]
      · simp at hp
    · simp at hp
  · exact wp_call hop h hp0 ht
  · simp at hp
end
end Go.Proofs.YtmfgajbkcnlkcaaGreat.AI
