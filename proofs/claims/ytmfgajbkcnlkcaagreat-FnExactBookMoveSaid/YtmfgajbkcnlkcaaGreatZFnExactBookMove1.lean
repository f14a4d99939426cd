/- What the law FnExactBookMove leans on, cut out of this repo's own texts by a program of this repo: plain functions, the walks that tie the Go calls to them, the law over lists and numbers, and the row. -/
import Derived.Test.YtmfgajbkcnlkcaaGreatZFnExactBookMove0
import Derived.Test.YtmfgajbkcnlkcaaGreatProg
import Derived.Below
import Derived.Deep.Draws
import Derived.Deep.AppendLies
import Derived.Maps.AppendAt
import Derived.OwnWalk
import Derived.Laws.BytesArg
import Derived.Laws.MakeOwn
import Derived.Laws.OwnMore
import Derived.Deep.OwnRows
import Derived.Tactics
import Derived.Lib.ConvBytes
import Derived.Laws.Slices
import Derived.WalkKit
import Derived.KernelRfl
import Derived.RowKit3
import Derived.Deep.LoopGhost
import Derived.Deep.QuietTactic
import Derived.BigQuiet
import Derived.WideLaws
import Derived.Deep.DeepCutAuto
import Derived.Deep.CutBlock
import Derived.Deep.RegionHeld3
import Derived.Laws.Rows
import Derived.Lib.AppendStr
import Derived.ArgAppend
import Derived.Laws.IdiomCopy
import Derived.OrdersHeld
import Derived.Laws.BitsLemmas
import Derived.RowKit
import Derived.Lib.SliceRun
import Derived.Shelf.RegionOpenPlain
import Derived.Orders
import Derived.Laws.AppendOwn
import Derived.Laws.Small
import Derived.Laws.Entries
import Derived.Laws.Cells
import Derived.Laws.CopyRow
import Derived.Laws.Tables
namespace Go.Proofs.YtmfgajbkcnlkcaaGreat.P
open Go.RowKit Go.Proofs.YtmfgajbkcnlkcaaGreatW.PrintWords Go.Proofs.YtmfgajbkcnlkcaaGreatW.PrintLast Go.Proofs.YtmfgajbkcnlkcaaGreatW.PrintMore
attribute [local go_sem] Z7 Z5 A1h A1g W9 W8 Z6 Z4   -- for this text's walks alone
set_option linter.unusedVariables false
set_option linter.unusedSimpArgs false
def errW:Option Int→Value
 | none=>.nilIface
 | some c=>.iface 0 (.int .i64 c)
theorem B1b:errW none = .nilIface:=rfl
theorem B1a (c:Int):errW (some c) = .iface 0 (.int .i64 c):=rfl
theorem C9t:(Tryz.prog.info? 60).map (fun i=>(i.zero,i.size,i.bytes))=some (some (.agg #[(.int .i64 0),(.int .i64 0),(.int .i64 0),(.int .i64 0),(.int .i64 0),(.int .i64 0),(.int .i64 0),(.int .i64 0)]),8,64):=by kernel_rfl
theorem C9s:(Tryz.prog.info? 80).map (fun i=>(i.zero,i.size,i.bytes))=some (some (.agg #[(.int .i64 0),(.int .i64 0)]),2,16):=by kernel_rfl
theorem C9r:(Tryz.prog.info? 84).map (fun i=>(i.zero,i.size,i.bytes))=some (some (.agg #[(.int .i64 0),(.int .i64 0)]),2,16):=by kernel_rfl
theorem A1w:(Tryz.prog.info? 106).map (fun i=>(i.zero,i.size,i.bytes))=some (some (.agg #[(.int .i64 0),(.int .i64 0),(.int .i64 0)]),3,24):=by kernel_rfl
theorem A1v:(Tryz.prog.info? 110).map (fun i=>(i.zero,i.size,i.bytes))=some (some (.agg #[(.int .i64 0),(.int .i64 0),(.int .i64 0),(.int .i64 0),(.int .i64 0)]),5,40):=by kernel_rfl
structure S103 where
 f0:Int
 f1:Int
def z103:S103:=⟨(0:Int),(0:Int)⟩
def k103:Kd S103:=Kd.iso (Kd.pair (Kd.int .i64) (Kd.int .i64)) (fun x:S103=>(x.f0,x.f1))
theorem B9n {w:World} {x:S103} {cs:List Value} (h:k103.K w x cs):cs=[.int .i64 x.f0,.int .i64 x.f1]:=by
 obtain ⟨_,_,rfl,rfl,rfl⟩:=h;exact rfl
theorem B9o (w:World) (x:S103)  : k103.K w x [.int .i64 x.f0,.int .i64 x.f1]:=⟨[.int .i64 x.f0],[.int .i64 x.f1],rfl,rfl,rfl⟩
def A4l (xs:List S103) (i:Int):S103:=xs.getD i.toNat z103
structure S105 where
 f0:Int
 f1:Int
def z105:S105:=⟨(0:Int),(0:Int)⟩
def k105:Kd S105:=Kd.iso (Kd.pair (Kd.int .i64) (Kd.int .i64)) (fun x:S105=>(x.f0,x.f1))
theorem B9l {w:World} {x:S105} {cs:List Value} (h:k105.K w x cs):cs=[.int .i64 x.f0,.int .i64 x.f1]:=by
 obtain ⟨_,_,rfl,rfl,rfl⟩:=h;exact rfl
theorem B9m (w:World) (x:S105)  : k105.K w x [.int .i64 x.f0,.int .i64 x.f1]:=⟨[.int .i64 x.f0],[.int .i64 x.f1],rfl,rfl,rfl⟩
def A4k (xs:List S105) (i:Int):S105:=xs.getD i.toNat z105
structure S108 where
 f0:Int
 f1:Int
 f2:Int
def z108:S108:=⟨(0:Int),(0:Int),(0:Int)⟩
def k108:Kd S108:=Kd.iso (Kd.pair (Kd.int .i64) (Kd.pair (Kd.int .i64) (Kd.int .i64))) (fun x:S108=>(x.f0,x.f1,x.f2))
theorem B9j {w:World} {x:S108} {cs:List Value} (h:k108.K w x cs):cs=[.int .i64 x.f0,.int .i64 x.f1,.int .i64 x.f2]:=by
 obtain ⟨_,_,rfl,rfl,⟨_,_,rfl,rfl,rfl⟩⟩:=h;exact rfl
theorem B9k (w:World) (x:S108)  : k108.K w x [.int .i64 x.f0,.int .i64 x.f1,.int .i64 x.f2]:=⟨[.int .i64 x.f0],[.int .i64 x.f1,.int .i64 x.f2],rfl,rfl,⟨[.int .i64 x.f1],[.int .i64 x.f2],rfl,rfl,rfl⟩⟩
def A2k (xs:List S108) (i:Int):S108:=xs.getD i.toNat z108
structure S112 where
 f0:Int
 f1:Int
 f2:Int
 f3:Int
 f4:Int
def z112:S112:=⟨(0:Int),(0:Int),(0:Int),(0:Int),(0:Int)⟩
def k112:Kd S112:=Kd.iso (Kd.pair (Kd.int .i64) (Kd.pair (Kd.int .i64) (Kd.pair (Kd.int .i64) (Kd.pair (Kd.int .i64) (Kd.int .i64))))) (fun x:S112=>(x.f0,x.f1,x.f2,x.f3,x.f4))
theorem B9h {w:World} {x:S112} {cs:List Value} (h:k112.K w x cs):cs=[.int .i64 x.f0,.int .i64 x.f1,.int .i64 x.f2,.int .i64 x.f3,.int .i64 x.f4]:=by
 obtain ⟨_,_,rfl,rfl,⟨_,_,rfl,rfl,⟨_,_,rfl,rfl,⟨_,_,rfl,rfl,rfl⟩⟩⟩⟩:=h;exact rfl
theorem B9i (w:World) (x:S112)  : k112.K w x [.int .i64 x.f0,.int .i64 x.f1,.int .i64 x.f2,.int .i64 x.f3,.int .i64 x.f4]:=⟨[.int .i64 x.f0],[.int .i64 x.f1,.int .i64 x.f2,.int .i64 x.f3,.int .i64 x.f4],rfl,rfl,⟨[.int .i64 x.f1],[.int .i64 x.f2,.int .i64 x.f3,.int .i64 x.f4],rfl,rfl,⟨[.int .i64 x.f2],[.int .i64 x.f3,.int .i64 x.f4],rfl,rfl,⟨[.int .i64 x.f3],[.int .i64 x.f4],rfl,rfl,rfl⟩⟩⟩⟩
def A0i (xs:List S112) (i:Int):S112:=xs.getD i.toNat z112
structure S114 where
 f0:Int
 f1:Int
 f2:Int
 f3:Int
 f4:Int
 f5:Int
 f6:Int
 f7:Int
def z114:S114:=⟨(0:Int),(0:Int),(0:Int),(0:Int),(0:Int),(0:Int),(0:Int),(0:Int)⟩
def k114:Kd S114:=Kd.iso (Kd.pair (Kd.int .i64) (Kd.pair (Kd.int .i64) (Kd.pair (Kd.int .i64) (Kd.pair (Kd.int .i64) (Kd.pair (Kd.int .i64) (Kd.pair (Kd.int .i64) (Kd.pair (Kd.int .i64) (Kd.int .i64)))))))) (fun x:S114=>(x.f0,x.f1,x.f2,x.f3,x.f4,x.f5,x.f6,x.f7))
theorem B9f {w:World} {x:S114} {cs:List Value} (h:k114.K w x cs):cs=[.int .i64 x.f0,.int .i64 x.f1,.int .i64 x.f2,.int .i64 x.f3,.int .i64 x.f4,.int .i64 x.f5,.int .i64 x.f6,.int .i64 x.f7]:=by
 obtain ⟨_,_,rfl,rfl,⟨_,_,rfl,rfl,⟨_,_,rfl,rfl,⟨_,_,rfl,rfl,⟨_,_,rfl,rfl,⟨_,_,rfl,rfl,⟨_,_,rfl,rfl,rfl⟩⟩⟩⟩⟩⟩⟩:=h;exact rfl
theorem B9g (w:World) (x:S114)  : k114.K w x [.int .i64 x.f0,.int .i64 x.f1,.int .i64 x.f2,.int .i64 x.f3,.int .i64 x.f4,.int .i64 x.f5,.int .i64 x.f6,.int .i64 x.f7]:=⟨[.int .i64 x.f0],[.int .i64 x.f1,.int .i64 x.f2,.int .i64 x.f3,.int .i64 x.f4,.int .i64 x.f5,.int .i64 x.f6,.int .i64 x.f7],rfl,rfl,⟨[.int .i64 x.f1],[.int .i64 x.f2,.int .i64 x.f3,.int .i64 x.f4,.int .i64 x.f5,.int .i64 x.f6,.int .i64 x.f7],rfl,rfl,⟨[.int .i64 x.f2],[.int .i64 x.f3,.int .i64 x.f4,.int .i64 x.f5,.int .i64 x.f6,.int .i64 x.f7],rfl,rfl,⟨[.int .i64 x.f3],[.int .i64 x.f4,.int .i64 x.f5,.int .i64 x.f6,.int .i64 x.f7],rfl,rfl,⟨[.int .i64 x.f4],[.int .i64 x.f5,.int .i64 x.f6,.int .i64 x.f7],rfl,rfl,⟨[.int .i64 x.f5],[.int .i64 x.f6,.int .i64 x.f7],rfl,rfl,⟨[.int .i64 x.f6],[.int .i64 x.f7],rfl,rfl,rfl⟩⟩⟩⟩⟩⟩⟩
def V0 (xs:List S114) (i:Int):S114:=xs.getD i.toNat z114
structure S80 where
 f0:Int
 f1:Int
def z80:S80:=⟨(0:Int),(0:Int)⟩
def k80:Kd S80:=Kd.iso (Kd.pair (Kd.int .i64) (Kd.int .i64)) (fun x:S80=>(x.f0,x.f1))
theorem C4l {w:World} {x:S80} {cs:List Value} (h:k80.K w x cs):cs=[.int .i64 x.f0,.int .i64 x.f1]:=by
 obtain ⟨_,_,rfl,rfl,rfl⟩:=h;exact rfl
theorem B9d {w:World} {base:Nat} {ok:Nat→Prop} {x:S80} {cs:List Value} (h:k80.M w base ok x cs):cs=[.int .i64 x.f0,.int .i64 x.f1]:=by
 obtain ⟨_,_,rfl,rfl,rfl⟩:=h;exact rfl
theorem C9o (w:World) (x:S80)  : k80.K w x [.int .i64 x.f0,.int .i64 x.f1]:=⟨[.int .i64 x.f0],[.int .i64 x.f1],rfl,rfl,rfl⟩
theorem C7o (w:World) (base:Nat) (ok:Nat→Prop) (x:S80)  : k80.M w base ok x [.int .i64 x.f0,.int .i64 x.f1]:=⟨[.int .i64 x.f0],[.int .i64 x.f1],rfl,rfl,rfl⟩
def M2 (xs:List S80) (i:Int):S80:=xs.getD i.toNat z80
structure S84 where
 f0:Int
 f1:Int
def z84:S84:=⟨(0:Int),(0:Int)⟩
def k84:Kd S84:=Kd.iso (Kd.pair (Kd.int .i64) (Kd.int .i64)) (fun x:S84=>(x.f0,x.f1))
theorem C4k {w:World} {x:S84} {cs:List Value} (h:k84.K w x cs):cs=[.int .i64 x.f0,.int .i64 x.f1]:=by
 obtain ⟨_,_,rfl,rfl,rfl⟩:=h;exact rfl
theorem B9c {w:World} {base:Nat} {ok:Nat→Prop} {x:S84} {cs:List Value} (h:k84.M w base ok x cs):cs=[.int .i64 x.f0,.int .i64 x.f1]:=by
 obtain ⟨_,_,rfl,rfl,rfl⟩:=h;exact rfl
theorem C9n (w:World) (x:S84)  : k84.K w x [.int .i64 x.f0,.int .i64 x.f1]:=⟨[.int .i64 x.f0],[.int .i64 x.f1],rfl,rfl,rfl⟩
theorem C7n (w:World) (base:Nat) (ok:Nat→Prop) (x:S84)  : k84.M w base ok x [.int .i64 x.f0,.int .i64 x.f1]:=⟨[.int .i64 x.f0],[.int .i64 x.f1],rfl,rfl,rfl⟩
def M5 (xs:List S84) (i:Int):S84:=xs.getD i.toNat z84
structure S106 where
 f0:Int
 f1:Int
 f2:Int
def z106:S106:=⟨(0:Int),(0:Int),(0:Int)⟩
def k106:Kd S106:=Kd.iso (Kd.pair (Kd.int .i64) (Kd.pair (Kd.int .i64) (Kd.int .i64))) (fun x:S106=>(x.f0,x.f1,x.f2))
theorem A6f {w:World} {x:S106} {cs:List Value} (h:k106.K w x cs):cs=[.int .i64 x.f0,.int .i64 x.f1,.int .i64 x.f2]:=by
 obtain ⟨_,_,rfl,rfl,⟨_,_,rfl,rfl,rfl⟩⟩:=h;exact rfl
theorem A4q {w:World} {base:Nat} {ok:Nat→Prop} {x:S106} {cs:List Value} (h:k106.M w base ok x cs):cs=[.int .i64 x.f0,.int .i64 x.f1,.int .i64 x.f2]:=by
 obtain ⟨_,_,rfl,rfl,⟨_,_,rfl,rfl,rfl⟩⟩:=h;exact rfl
theorem C7r (w:World) (x:S106)  : k106.K w x [.int .i64 x.f0,.int .i64 x.f1,.int .i64 x.f2]:=⟨[.int .i64 x.f0],[.int .i64 x.f1,.int .i64 x.f2],rfl,rfl,⟨[.int .i64 x.f1],[.int .i64 x.f2],rfl,rfl,rfl⟩⟩
theorem A4a (w:World) (base:Nat) (ok:Nat→Prop) (x:S106)  : k106.M w base ok x [.int .i64 x.f0,.int .i64 x.f1,.int .i64 x.f2]:=⟨[.int .i64 x.f0],[.int .i64 x.f1,.int .i64 x.f2],rfl,rfl,⟨[.int .i64 x.f1],[.int .i64 x.f2],rfl,rfl,rfl⟩⟩
def C8 (xs:List S106) (i:Int):S106:=xs.getD i.toNat z106
structure S110 where
 f0:Int
 f1:Int
 f2:Int
 f3:Int
 f4:Int
def z110:S110:=⟨(0:Int),(0:Int),(0:Int),(0:Int),(0:Int)⟩
def k110:Kd S110:=Kd.iso (Kd.pair (Kd.int .i64) (Kd.pair (Kd.int .i64) (Kd.pair (Kd.int .i64) (Kd.pair (Kd.int .i64) (Kd.int .i64))))) (fun x:S110=>(x.f0,x.f1,x.f2,x.f3,x.f4))
theorem A3z {w:World} {x:S110} {cs:List Value} (h:k110.K w x cs):cs=[.int .i64 x.f0,.int .i64 x.f1,.int .i64 x.f2,.int .i64 x.f3,.int .i64 x.f4]:=by
 obtain ⟨_,_,rfl,rfl,⟨_,_,rfl,rfl,⟨_,_,rfl,rfl,⟨_,_,rfl,rfl,rfl⟩⟩⟩⟩:=h;exact rfl
theorem A4p {w:World} {base:Nat} {ok:Nat→Prop} {x:S110} {cs:List Value} (h:k110.M w base ok x cs):cs=[.int .i64 x.f0,.int .i64 x.f1,.int .i64 x.f2,.int .i64 x.f3,.int .i64 x.f4]:=by
 obtain ⟨_,_,rfl,rfl,⟨_,_,rfl,rfl,⟨_,_,rfl,rfl,⟨_,_,rfl,rfl,rfl⟩⟩⟩⟩:=h;exact rfl
theorem C7q (w:World) (x:S110)  : k110.K w x [.int .i64 x.f0,.int .i64 x.f1,.int .i64 x.f2,.int .i64 x.f3,.int .i64 x.f4]:=⟨[.int .i64 x.f0],[.int .i64 x.f1,.int .i64 x.f2,.int .i64 x.f3,.int .i64 x.f4],rfl,rfl,⟨[.int .i64 x.f1],[.int .i64 x.f2,.int .i64 x.f3,.int .i64 x.f4],rfl,rfl,⟨[.int .i64 x.f2],[.int .i64 x.f3,.int .i64 x.f4],rfl,rfl,⟨[.int .i64 x.f3],[.int .i64 x.f4],rfl,rfl,rfl⟩⟩⟩⟩
theorem A1a (w:World) (base:Nat) (ok:Nat→Prop) (x:S110)  : k110.M w base ok x [.int .i64 x.f0,.int .i64 x.f1,.int .i64 x.f2,.int .i64 x.f3,.int .i64 x.f4]:=⟨[.int .i64 x.f0],[.int .i64 x.f1,.int .i64 x.f2,.int .i64 x.f3,.int .i64 x.f4],rfl,rfl,⟨[.int .i64 x.f1],[.int .i64 x.f2,.int .i64 x.f3,.int .i64 x.f4],rfl,rfl,⟨[.int .i64 x.f2],[.int .i64 x.f3,.int .i64 x.f4],rfl,rfl,⟨[.int .i64 x.f3],[.int .i64 x.f4],rfl,rfl,rfl⟩⟩⟩⟩
def A4 (xs:List S110) (i:Int):S110:=xs.getD i.toNat z110
theorem A4v {w:World} {A:Option Addr} {n:Nat} {xs:List S110} (h:Kd.C k110 w A n xs) (i:Int) (h0:0≤i) (h1:i<n):∃ ad ,A=some ad∧w.cell? (ad.add (i.toNat*5))=some (.int .i64 (A4 xs i).f0)∧w.cell? ⟨(ad.add (i.toNat*5)).block,(ad.add (i.toNat*5)).off+1,none⟩=some (.int .i64 (A4 xs i).f1)∧w.cell? ⟨(ad.add (i.toNat*5)).block,(ad.add (i.toNat*5)).off+2,none⟩=some (.int .i64 (A4 xs i).f2)∧w.cell? ⟨(ad.add (i.toNat*5)).block,(ad.add (i.toNat*5)).off+3,none⟩=some (.int .i64 (A4 xs i).f3)∧w.cell? ⟨(ad.add (i.toNat*5)).block,(ad.add (i.toNat*5)).off+4,none⟩=some (.int .i64 (A4 xs i).f4):=by
 obtain ⟨ad,c,e,_,hK,hc0⟩:=Kd.C_get h z110 i h0 h1;have hc:∀ j u,c[j]? = some u→w.cell? (ad.add (i.toNat*5+j))=some u:=hc0;obtain rfl:=A3z hK;exact ⟨ad,e,hc 0 _ rfl,by rw [← U3 _ _ 1 (by omega)];exact hc 1 _ rfl,by rw [← U3 _ _ 2 (by omega)];exact hc 2 _ rfl,by rw [← U3 _ _ 3 (by omega)];exact hc 3 _ rfl,by rw [← U3 _ _ 4 (by omega)];exact hc 4 _ rfl⟩
structure S60 where
 f0:Int
 f1:Int
 f2:Int
 f3:Int
 f4:Int
 f5:Int
 f6:Int
 f7:Int
def z60:S60:=⟨(0:Int),(0:Int),(0:Int),(0:Int),(0:Int),(0:Int),(0:Int),(0:Int)⟩
def k60:Kd S60:=Kd.iso (Kd.pair (Kd.int .i64) (Kd.pair (Kd.int .i64) (Kd.pair (Kd.int .i64) (Kd.pair (Kd.int .i64) (Kd.pair (Kd.int .i64) (Kd.pair (Kd.int .i64) (Kd.pair (Kd.int .i64) (Kd.int .i64)))))))) (fun x:S60=>(x.f0,x.f1,x.f2,x.f3,x.f4,x.f5,x.f6,x.f7))
theorem B5j {w:World} {x:S60} {cs:List Value} (h:k60.K w x cs):cs=[.int .i64 x.f0,.int .i64 x.f1,.int .i64 x.f2,.int .i64 x.f3,.int .i64 x.f4,.int .i64 x.f5,.int .i64 x.f6,.int .i64 x.f7]:=by
 obtain ⟨_,_,rfl,rfl,⟨_,_,rfl,rfl,⟨_,_,rfl,rfl,⟨_,_,rfl,rfl,⟨_,_,rfl,rfl,⟨_,_,rfl,rfl,⟨_,_,rfl,rfl,rfl⟩⟩⟩⟩⟩⟩⟩:=h;exact rfl
theorem B9e {w:World} {base:Nat} {ok:Nat→Prop} {x:S60} {cs:List Value} (h:k60.M w base ok x cs):cs=[.int .i64 x.f0,.int .i64 x.f1,.int .i64 x.f2,.int .i64 x.f3,.int .i64 x.f4,.int .i64 x.f5,.int .i64 x.f6,.int .i64 x.f7]:=by
 obtain ⟨_,_,rfl,rfl,⟨_,_,rfl,rfl,⟨_,_,rfl,rfl,⟨_,_,rfl,rfl,⟨_,_,rfl,rfl,⟨_,_,rfl,rfl,⟨_,_,rfl,rfl,rfl⟩⟩⟩⟩⟩⟩⟩:=h;exact rfl
theorem C9p (w:World) (x:S60)  : k60.K w x [.int .i64 x.f0,.int .i64 x.f1,.int .i64 x.f2,.int .i64 x.f3,.int .i64 x.f4,.int .i64 x.f5,.int .i64 x.f6,.int .i64 x.f7]:=⟨[.int .i64 x.f0],[.int .i64 x.f1,.int .i64 x.f2,.int .i64 x.f3,.int .i64 x.f4,.int .i64 x.f5,.int .i64 x.f6,.int .i64 x.f7],rfl,rfl,⟨[.int .i64 x.f1],[.int .i64 x.f2,.int .i64 x.f3,.int .i64 x.f4,.int .i64 x.f5,.int .i64 x.f6,.int .i64 x.f7],rfl,rfl,⟨[.int .i64 x.f2],[.int .i64 x.f3,.int .i64 x.f4,.int .i64 x.f5,.int .i64 x.f6,.int .i64 x.f7],rfl,rfl,⟨[.int .i64 x.f3],[.int .i64 x.f4,.int .i64 x.f5,.int .i64 x.f6,.int .i64 x.f7],rfl,rfl,⟨[.int .i64 x.f4],[.int .i64 x.f5,.int .i64 x.f6,.int .i64 x.f7],rfl,rfl,⟨[.int .i64 x.f5],[.int .i64 x.f6,.int .i64 x.f7],rfl,rfl,⟨[.int .i64 x.f6],[.int .i64 x.f7],rfl,rfl,rfl⟩⟩⟩⟩⟩⟩⟩
theorem C7p (w:World) (base:Nat) (ok:Nat→Prop) (x:S60)  : k60.M w base ok x [.int .i64 x.f0,.int .i64 x.f1,.int .i64 x.f2,.int .i64 x.f3,.int .i64 x.f4,.int .i64 x.f5,.int .i64 x.f6,.int .i64 x.f7]:=⟨[.int .i64 x.f0],[.int .i64 x.f1,.int .i64 x.f2,.int .i64 x.f3,.int .i64 x.f4,.int .i64 x.f5,.int .i64 x.f6,.int .i64 x.f7],rfl,rfl,⟨[.int .i64 x.f1],[.int .i64 x.f2,.int .i64 x.f3,.int .i64 x.f4,.int .i64 x.f5,.int .i64 x.f6,.int .i64 x.f7],rfl,rfl,⟨[.int .i64 x.f2],[.int .i64 x.f3,.int .i64 x.f4,.int .i64 x.f5,.int .i64 x.f6,.int .i64 x.f7],rfl,rfl,⟨[.int .i64 x.f3],[.int .i64 x.f4,.int .i64 x.f5,.int .i64 x.f6,.int .i64 x.f7],rfl,rfl,⟨[.int .i64 x.f4],[.int .i64 x.f5,.int .i64 x.f6,.int .i64 x.f7],rfl,rfl,⟨[.int .i64 x.f5],[.int .i64 x.f6,.int .i64 x.f7],rfl,rfl,⟨[.int .i64 x.f6],[.int .i64 x.f7],rfl,rfl,rfl⟩⟩⟩⟩⟩⟩⟩
def B7 (xs:List S60) (i:Int):S60:=xs.getD i.toNat z60
theorem D2d {w:World} {A:Option Addr} {n:Nat} {xs:List S60} (h:Kd.C k60 w A n xs) (i:Int) (h0:0≤i) (h1:i<n):∃ ad ,A=some ad∧w.cell? (ad.add (i.toNat*8))=some (.int .i64 (B7 xs i).f0)∧w.cell? ⟨(ad.add (i.toNat*8)).block,(ad.add (i.toNat*8)).off+1,none⟩=some (.int .i64 (B7 xs i).f1)∧w.cell? ⟨(ad.add (i.toNat*8)).block,(ad.add (i.toNat*8)).off+2,none⟩=some (.int .i64 (B7 xs i).f2)∧w.cell? ⟨(ad.add (i.toNat*8)).block,(ad.add (i.toNat*8)).off+3,none⟩=some (.int .i64 (B7 xs i).f3)∧w.cell? ⟨(ad.add (i.toNat*8)).block,(ad.add (i.toNat*8)).off+4,none⟩=some (.int .i64 (B7 xs i).f4)∧w.cell? ⟨(ad.add (i.toNat*8)).block,(ad.add (i.toNat*8)).off+5,none⟩=some (.int .i64 (B7 xs i).f5)∧w.cell? ⟨(ad.add (i.toNat*8)).block,(ad.add (i.toNat*8)).off+6,none⟩=some (.int .i64 (B7 xs i).f6)∧w.cell? ⟨(ad.add (i.toNat*8)).block,(ad.add (i.toNat*8)).off+7,none⟩=some (.int .i64 (B7 xs i).f7):=by
 obtain ⟨ad,c,e,_,hK,hc0⟩:=Kd.C_get h z60 i h0 h1;have hc:∀ j u,c[j]? = some u→w.cell? (ad.add (i.toNat*8+j))=some u:=hc0;obtain rfl:=B5j hK;exact ⟨ad,e,hc 0 _ rfl,by rw [← U3 _ _ 1 (by omega)];exact hc 1 _ rfl,by rw [← U3 _ _ 2 (by omega)];exact hc 2 _ rfl,by rw [← U3 _ _ 3 (by omega)];exact hc 3 _ rfl,by rw [← U3 _ _ 4 (by omega)];exact hc 4 _ rfl,by rw [← U3 _ _ 5 (by omega)];exact hc 5 _ rfl,by rw [← U3 _ _ 6 (by omega)];exact hc 6 _ rfl,by rw [← U3 _ _ 7 (by omega)];exact hc 7 _ rfl⟩
structure S93 where
 f0:Int
 f1:Int
 f2:Int
def z93:S93:=⟨(0:Int),(0:Int),(0:Int)⟩
def k93:Kd S93:=Kd.iso (Kd.pair (Kd.int .i64) (Kd.pair (Kd.int .i64) (Kd.int .i64))) (fun x:S93=>(x.f0,x.f1,x.f2))
theorem B5i {w:World} {x:S93} {cs:List Value} (h:k93.K w x cs):cs=[.int .i64 x.f0,.int .i64 x.f1,.int .i64 x.f2]:=by
 obtain ⟨_,_,rfl,rfl,⟨_,_,rfl,rfl,rfl⟩⟩:=h;exact rfl
theorem C9m (w:World) (x:S93)  : k93.K w x [.int .i64 x.f0,.int .i64 x.f1,.int .i64 x.f2]:=⟨[.int .i64 x.f0],[.int .i64 x.f1,.int .i64 x.f2],rfl,rfl,⟨[.int .i64 x.f1],[.int .i64 x.f2],rfl,rfl,rfl⟩⟩
def K2 (xs:List S93) (i:Int):S93:=xs.getD i.toNat z93
theorem D2c {w:World} {A:Option Addr} {n:Nat} {xs:List S93} (h:Kd.C k93 w A n xs) (i:Int) (h0:0≤i) (h1:i<n):∃ ad ,A=some ad∧w.cell? (ad.add (i.toNat*3))=some (.int .i64 (K2 xs i).f0)∧w.cell? ⟨(ad.add (i.toNat*3)).block,(ad.add (i.toNat*3)).off+1,none⟩=some (.int .i64 (K2 xs i).f1)∧w.cell? ⟨(ad.add (i.toNat*3)).block,(ad.add (i.toNat*3)).off+2,none⟩=some (.int .i64 (K2 xs i).f2):=by
 obtain ⟨ad,c,e,_,hK,hc0⟩:=Kd.C_get h z93 i h0 h1;have hc:∀ j u,c[j]? = some u→w.cell? (ad.add (i.toNat*3+j))=some u:=hc0;obtain rfl:=B5i hK;exact ⟨ad,e,hc 0 _ rfl,by rw [← U3 _ _ 1 (by omega)];exact hc 1 _ rfl,by rw [← U3 _ _ 2 (by omega)];exact hc 2 _ rfl⟩
end Go.Proofs.YtmfgajbkcnlkcaaGreat.P
namespace Go.Proofs.YtmfgajbkcnlkcaaGreat.P
open Go.RowKit Go.Proofs.YtmfgajbkcnlkcaaGreatW.PrintWords Go.Proofs.YtmfgajbkcnlkcaaGreatW.PrintLast Go.Proofs.YtmfgajbkcnlkcaaGreatW.PrintMore
attribute [local go_sem] Z7 Z5 A1h A1g W9 W8 Z6 Z4   -- for this text's walks alone
set_option linter.unusedVariables false
set_option linter.unusedSimpArgs false
def U2.f (l0:List (S103)) (a1:Int):Option (Int):=if (wrap64 (a1-(l0.length:Int)))<0 then (some (-1)) else (some (wrap64 (a1-(l0.length:Int))))
def W0.f (l0:List (S105)) (a1:Int):Option (Int):=if (wrap64 (a1-(l0.length:Int)))<0 then (some (-1)) else (some (wrap64 (a1-(l0.length:Int))))
def Z0.f (l0:List (S108)) (a1:Int):Option (Int):=if (wrap64 (a1-(l0.length:Int)))<0 then (some (-1)) else (some (wrap64 (a1-(l0.length:Int))))
def Y9.f (l0:List (S112)) (a1:Int):Option (Int):=if (wrap64 (a1-(l0.length:Int)))<0 then (some (-1)) else (some (wrap64 (a1-(l0.length:Int))))
def V9.f (l0:List (S114)) (a1:Int):Option (Int):=if (wrap64 (a1-(l0.length:Int)))<0 then (some (-1)) else (some (wrap64 (a1-(l0.length:Int))))
def V5.f (l0_0:List (S103)) (l0_1:List (S105)) (l0_2:List (S108)) (l0_3:List (S112)) (l0_4:List (S114)) (a0_5:Int) (a1:Int):Option (Int):=(U2.f l0_0 a1).bind fun t102=>(if t102<0 then (some (-1)) else ((W0.f l0_1 t102).bind fun t103=>(if t103<0 then (some (-1)) else ((Z0.f l0_2 t103).bind fun t104=>(if t104<0 then (some (-1)) else ((Y9.f l0_3 t104).bind fun t105=>(if t105<0 then (some (-1)) else ((V9.f l0_4 t105).bind fun t106=>(if t106<0 then (some (-1)) else (some t106))))))))))
def N9.f (a0:Int) (a1:Int) (a2:Int):Option (Bool):=if a0≥a1 then (some (decide (a0≤a2))) else (some false)
def I3.f (a0:Int):Option (Bool):=(N9.f a0 1 1000).bind fun t107=>(some t107)
def G6.l0:Nat→List (S80)→Int→Option (Bool)
 | 0,_,_=>none
 | k+1,x0,x3=>if x3<(x0.length:Int) then (if 0≤x3 then ((I3.f ((M2 x0 x3).f0)).bind fun t109=>(if t109=true then ((N9.f ((M2 x0 x3).f1) 1 4).bind fun t111=>(if t111=true then (if x3>0 then (if 0≤(wrap64 (x3-1)) then (if (wrap64 (x3-1))<(x0.length:Int) then (if ((M2 x0 (wrap64 (x3-1))).f0)≥((M2 x0 x3).f0) then (some false) else (G6.l0 k x0 (wrap64 (x3+1)))) else (none)) else (none)) else (G6.l0 k x0 (wrap64 (x3+1)))) else (some false))) else (some false))) else (none)) else (some true)
def G6.f (k:Nat) (l0:List (S80)):Option (Bool):=if (l0.length:Int)>20 then (some false) else (G6.l0 k l0 0)
mutual
def C9.l0:Nat→List (S80)→Int→Int→Option (Int)
 | 0,_,_,_=>none
 | k+1,x0,x1,x5=>if x5<(x0.length:Int) then ((G6.f k x0).bind fun t114=>(C9.j1 k x0 x1 x5 t114)) else (C9.j1 k x0 x1 x5 false)
def C9.j1:Nat→List (S80)→Int→Int→Bool→Option (Int)
 | 0,_,_,_,_=>none
 | k+1,x0,x1,x5,x13=>if x13=true then (if 0≤x5 then (if x5<(x0.length:Int) then (if ((M2 x0 x5).f0)=x1 then (some ((M2 x0 x5).f1)) else (C9.l0 k x0 x1 (wrap64 (x5+1)))) else (none)) else (none)) else (some 0)
end
def C9.f (k:Nat) (l0:List (S80)) (a1:Int):Option (Int):=C9.l0 k l0 a1 0
def H9.l0:Nat→List (S84)→Int→Option (Bool)
 | 0,_,_=>none
 | k+1,x0,x3=>if x3<(x0.length:Int) then (if 0≤x3 then ((I3.f ((M5 x0 x3).f0)).bind fun t118=>(if t118=true then ((N9.f ((M5 x0 x3).f1) 1 2).bind fun t120=>(if t120=true then (if x3>0 then (if 0≤(wrap64 (x3-1)) then (if (wrap64 (x3-1))<(x0.length:Int) then (if ((M5 x0 (wrap64 (x3-1))).f0)≥((M5 x0 x3).f0) then (some false) else (H9.l0 k x0 (wrap64 (x3+1)))) else (none)) else (none)) else (H9.l0 k x0 (wrap64 (x3+1)))) else (some false))) else (some false))) else (none)) else (some true)
def H9.f (k:Nat) (l0:List (S84)):Option (Bool):=if (l0.length:Int)>8 then (some false) else (H9.l0 k l0 0)
mutual
def D6.l0:Nat→List (S84)→Int→Int→Option (Int)
 | 0,_,_,_=>none
 | k+1,x0,x1,x5=>if x5<(x0.length:Int) then ((H9.f k x0).bind fun t123=>(D6.j1 k x0 x1 x5 t123)) else (D6.j1 k x0 x1 x5 false)
def D6.j1:Nat→List (S84)→Int→Int→Bool→Option (Int)
 | 0,_,_,_,_=>none
 | k+1,x0,x1,x5,x13=>if x13=true then (if 0≤x5 then (if x5<(x0.length:Int) then (if ((M5 x0 x5).f0)=x1 then (some ((M5 x0 x5).f1)) else (D6.l0 k x0 x1 (wrap64 (x5+1)))) else (none)) else (none)) else (some 0)
end
def D6.f (k:Nat) (l0:List (S84)) (a1:Int):Option (Int):=D6.l0 k l0 a1 0
def M4.f (a0:Int):Option (Bool):=(N9.f a0 (-1000000000000000) 1000000000000000).bind fun t126=>(some t126)
def Q9.f (a0:Int) (a1:Int) (a2:Int) (a3:Int):Option (Bool):=if a0<a2 then (some true) else (if a0=a2 then (some (decide (a1<a3))) else (some false))
def I4.l0:Nat→List (S106)→Int→Option (Bool)
 | 0,_,_=>none
 | k+1,x0,x3=>if x3<(x0.length:Int) then (if 0≤x3 then ((I3.f ((C8 x0 x3).f0)).bind fun t129=>(if t129=true then ((I3.f ((C8 x0 x3).f1)).bind fun t130=>(if t130=true then ((M4.f ((C8 x0 x3).f2)).bind fun t131=>(if t131=true then (if ((C8 x0 x3).f2)=0 then (some false) else (if x3>0 then (if 0≤(wrap64 (x3-1)) then (if (wrap64 (x3-1))<(x0.length:Int) then ((Q9.f ((C8 x0 (wrap64 (x3-1))).f0) ((C8 x0 (wrap64 (x3-1))).f1) ((C8 x0 x3).f0) ((C8 x0 x3).f1)).bind fun t134=>(if t134=true then (I4.l0 k x0 (wrap64 (x3+1))) else (some false))) else (none)) else (none)) else (I4.l0 k x0 (wrap64 (x3+1))))) else (some false))) else (some false))) else (some false))) else (none)) else (some true)
def I4.f (k:Nat) (l0:List (S106)):Option (Bool):=if (l0.length:Int)>160 then (some false) else (I4.l0 k l0 0)
def J9.f (a0:Int) (a1:Int):Option (Bool):=(N9.f a0 a1 1000000000000000).bind fun t135=>(some t135)
def U5.f (a0_0:Int) (a0_1:Int) (a0_2:Int) (a0_3:Int) (a0_4:Int):Option (Bool):=(I3.f a0_0).bind fun t137=>(if t137=true then ((I3.f a0_1).bind fun t138=>(if t138=true then ((N9.f a0_2 1 1000000000).bind fun t139=>(if t139=true then ((J9.f a0_3 1).bind fun t140=>(if t140=true then ((J9.f a0_4 0).bind fun t141=>(some t141)) else (some false))) else (some false))) else (some false))) else (some false))
def T5.f (a0_0:Int) (a0_1:Int) (a0_2:Int) (a0_3:Int) (a0_4:Int) (a1_0:Int) (a1_1:Int) (a1_2:Int) (a1_3:Int) (a1_4:Int):Option (Bool):=(Q9.f a0_0 a0_1 a1_0 a1_1).bind fun t144=>(if t144=true then (some true) else (if a0_0=a1_0 then (if a0_1=a1_1 then (some (decide (a0_2<a1_2))) else (some false)) else (some false)))
mutual
def C7.l0:Nat→List (S110)→Int→Int→Int→Option (Bool)
 | 0,_,_,_,_=>none
 | k+1,x0,x3,x4,x5=>if x5<(x0.length:Int) then (if 0≤x5 then ((U5.f ((A4 x0 x5).f0) ((A4 x0 x5).f1) ((A4 x0 x5).f2) ((A4 x0 x5).f3) ((A4 x0 x5).f4)).bind fun t147=>(if t147=true then (if x5>0 then (if 0≤(wrap64 (x5-1)) then (if (wrap64 (x5-1))<(x0.length:Int) then ((T5.f ((A4 x0 (wrap64 (x5-1))).f0) ((A4 x0 (wrap64 (x5-1))).f1) ((A4 x0 (wrap64 (x5-1))).f2) ((A4 x0 (wrap64 (x5-1))).f3) ((A4 x0 (wrap64 (x5-1))).f4) ((A4 x0 x5).f0) ((A4 x0 x5).f1) ((A4 x0 x5).f2) ((A4 x0 x5).f3) ((A4 x0 x5).f4)).bind fun t149=>(C7.j1 k x0 x3 x4 x5 (!t149) ((A4 x0 x5).f0) ((A4 x0 x5).f1) ((A4 x0 x5).f2) ((A4 x0 x5).f3) ((A4 x0 x5).f4))) else (none)) else (none)) else (C7.j1 k x0 x3 x4 x5 false ((A4 x0 x5).f0) ((A4 x0 x5).f1) ((A4 x0 x5).f2) ((A4 x0 x5).f3) ((A4 x0 x5).f4))) else (C7.j1 k x0 x3 x4 x5 true ((A4 x0 x5).f0) ((A4 x0 x5).f1) ((A4 x0 x5).f2) ((A4 x0 x5).f3) ((A4 x0 x5).f4)))) else (none)) else (some true)
def C7.j1:Nat→List (S110)→Int→Int→Int→Bool→Int→Int→Int→Int→Int→Option (Bool)
 | 0,_,_,_,_,_,_,_,_,_,_=>none
 | k+1,x0,x3,x4,x5,x36,x147000,x147001,x147002,x147003,x147004=>if x36=true then (some false) else (if x5=0 then (C7.j2 k x0 x3 x4 x5 true x147000 x147001 x147002 x147003 x147004) else (if 0≤(wrap64 (x5-1)) then (if (wrap64 (x5-1))<(x0.length:Int) then (if x147000=((A4 x0 (wrap64 (x5-1))).f0) then (C7.j2 k x0 x3 x4 x5 (x147001 != ((A4 x0 (wrap64 (x5-1))).f1)) x147000 x147001 x147002 x147003 x147004) else (C7.j2 k x0 x3 x4 x5 true x147000 x147001 x147002 x147003 x147004)) else (none)) else (none)))
def C7.j2:Nat→List (S110)→Int→Int→Int→Bool→Int→Int→Int→Int→Int→Option (Bool)
 | 0,_,_,_,_,_,_,_,_,_,_=>none
 | k+1,x0,x3,x4,x5,x60,x147000,x147001,x147002,x147003,x147004=>if x60=true then (C7.j3 k x0 0 0 x5 x147000 x147001 x147002 x147003 x147004) else (C7.j3 k x0 x3 x4 x5 x147000 x147001 x147002 x147003 x147004)
def C7.j3:Nat→List (S110)→Int→Int→Int→Int→Int→Int→Int→Int→Option (Bool)
 | 0,_,_,_,_,_,_,_,_,_=>none
 | k+1,x0,x3,x4,x5,x147000,x147001,x147002,x147003,x147004=>(M4.f (wrap64 (x3+x147003))).bind fun t152=>(if t152=true then ((M4.f (wrap64 (x4+x147004))).bind fun t153=>(if t153=true then (C7.l0 k x0 (wrap64 (x3+x147003)) (wrap64 (x4+x147004)) (wrap64 (x5+1))) else (some false))) else (some false))
end
def C7.f (k:Nat) (l0:List (S110)):Option (Bool):=if (l0.length:Int)>120 then (some false) else (C7.l0 k l0 0 0 0)
def J2.l0:Nat→List (S60)→Int→Option (Bool)
 | 0,_,_=>none
 | k+1,x0,x3=>if x3<(x0.length:Int) then (if 0≤x3 then ((I3.f ((B7 x0 x3).f0)).bind fun t156=>(if t156=true then ((I3.f ((B7 x0 x3).f1)).bind fun t157=>(if t157=true then ((I3.f ((B7 x0 x3).f2)).bind fun t158=>(if t158=true then ((I3.f ((B7 x0 x3).f3)).bind fun t159=>(if t159=true then ((I3.f ((B7 x0 x3).f5)).bind fun t160=>(if t160=true then (if ((B7 x0 x3).f1)=((B7 x0 x3).f2) then (some false) else ((J9.f ((B7 x0 x3).f4) 1).bind fun t161=>(if t161=true then ((J9.f ((B7 x0 x3).f6) 0).bind fun t162=>(if t162=true then ((N9.f ((B7 x0 x3).f7) 1 3).bind fun t163=>(if t163=true then (if x3>0 then (if 0≤(wrap64 (x3-1)) then (if (wrap64 (x3-1))<(x0.length:Int) then (if ((B7 x0 (wrap64 (x3-1))).f0)≥((B7 x0 x3).f0) then (some false) else (J2.l0 k x0 (wrap64 (x3+1)))) else (none)) else (none)) else (J2.l0 k x0 (wrap64 (x3+1)))) else (some false))) else (some false))) else (some false)))) else (some false))) else (some false))) else (some false))) else (some false))) else (some false))) else (none)) else (some true)
def J2.f (k:Nat) (l0:List (S60)):Option (Bool):=if (l0.length:Int)>30 then (some false) else (J2.l0 k l0 0)
def S9.f (a0:Int) (a1:Bool):Option (Int×Bool):=if a1=true then ((M4.f a0).bind fun t176=>(if t176=true then (some (a0,true)) else (some (0,false)))) else (some (0,false))
mutual
def G3.l0:Nat→List (S106)→Int→Int→Int→Option (Int×Bool)
 | 0,_,_,_,_=>none
 | k+1,x0,x1,x6,x7=>if x7<(x0.length:Int) then ((I4.f k x0).bind fun t177=>(G3.j1 k x0 x1 x6 x7 t177)) else (G3.j1 k x0 x1 x6 x7 false)
def G3.j1:Nat→List (S106)→Int→Int→Int→Bool→Option (Int×Bool)
 | 0,_,_,_,_,_=>none
 | k+1,x0,x1,x6,x7,x15=>if x15=true then (if 0≤x7 then (if x7<(x0.length:Int) then (if ((C8 x0 x7).f1)=x1 then (G3.l0 k x0 x1 (wrap64 (x6+((C8 x0 x7).f2))) (wrap64 (x7+1))) else (G3.l0 k x0 x1 x6 (wrap64 (x7+1)))) else (none)) else (none)) else ((I4.f k x0).bind fun t180=>((S9.f x6 t180).bind fun bt181=>(some (bt181.1,bt181.2))))
end
def G3.f (k:Nat) (l0:List (S106)) (a1:Int):Option (Int×Bool):=G3.l0 k l0 a1 0 0
mutual
def F6.l0:Nat→Int→List (S80)→List (S84)→List (S106)→List (S110)→List (S60)→Int→Option (Bool)
 | 0,_,_,_,_,_,_,_=>none
 | k+1,x3,x184000,x184001,x184002,x184003,x184004,x184005=>if x3<(x184002.length:Int) then (if 0≤x3 then ((C9.f k x184000 ((C8 x184002 x3).f0)).bind fun t186=>(if t186=0 then (F6.j1 k x3 true x184000 x184001 x184002 x184003 x184004 x184005 ((C8 x184002 x3).f0) ((C8 x184002 x3).f1) ((C8 x184002 x3).f2)) else ((D6.f k x184001 ((C8 x184002 x3).f1)).bind fun t187=>(if t187=0 then (F6.j1 k x3 true x184000 x184001 x184002 x184003 x184004 x184005 ((C8 x184002 x3).f0) ((C8 x184002 x3).f1) ((C8 x184002 x3).f2)) else (if t186=1 then (F6.j1 k x3 (decide (((C8 x184002 x3).f2)<0)) x184000 x184001 x184002 x184003 x184004 x184005 ((C8 x184002 x3).f0) ((C8 x184002 x3).f1) ((C8 x184002 x3).f2)) else (F6.j1 k x3 false x184000 x184001 x184002 x184003 x184004 x184005 ((C8 x184002 x3).f0) ((C8 x184002 x3).f1) ((C8 x184002 x3).f2))))))) else (none)) else (some true)
def F6.j1:Nat→Int→Bool→List (S80)→List (S84)→List (S106)→List (S110)→List (S60)→Int→Int→Int→Int→Option (Bool)
 | 0,_,_,_,_,_,_,_,_,_,_,_=>none
 | k+1,x3,x43,x184000,x184001,x184002,x184003,x184004,x184005,x186000,x186001,x186002=>if x43=true then (some false) else ((G3.f k x184002 x186001).bind fun bt188=>(if bt188.2=true then (if bt188.1=0 then (F6.l0 k (wrap64 (x3+1)) x184000 x184001 x184002 x184003 x184004 x184005) else (some false)) else (some false)))
end
def F6.f (k:Nat) (l0_0:List (S80)) (l0_1:List (S84)) (l0_2:List (S106)) (l0_3:List (S110)) (l0_4:List (S60)) (a0_5:Int):Option (Bool):=F6.l0 k 0 l0_0 l0_1 l0_2 l0_3 l0_4 a0_5
def I6.l0:Nat→List (S110)→Int→Int→List (S110)→List (S110)→Int→Option ((List (S110))×(List (S110)))
 | 0,_,_,_,_,_,_=>none
 | k+1,x0,x1,x2,x8,x9,x10=>if x10<(x0.length:Int) then (if 0≤x10 then (if ((A4 x0 x10).f0)=x1 then (if ((A4 x0 x10).f1)=x2 then (if x8.length<3518437208883 then (I6.l0 k x0 x1 x2 (x8++[(⟨(A4 x0 x10).f0,(A4 x0 x10).f1,(A4 x0 x10).f2,(A4 x0 x10).f3,(A4 x0 x10).f4⟩:S110)]) x9 (wrap64 (x10+1))) else (none)) else (if x9.length<3518437208883 then (I6.l0 k x0 x1 x2 x8 (x9++[(⟨(A4 x0 x10).f0,(A4 x0 x10).f1,(A4 x0 x10).f2,(A4 x0 x10).f3,(A4 x0 x10).f4⟩:S110)]) (wrap64 (x10+1))) else (none))) else (if x9.length<3518437208883 then (I6.l0 k x0 x1 x2 x8 (x9++[(⟨(A4 x0 x10).f0,(A4 x0 x10).f1,(A4 x0 x10).f2,(A4 x0 x10).f3,(A4 x0 x10).f4⟩:S110)]) (wrap64 (x10+1))) else (none))) else (none)) else (some (x8,x9))
def I6.f (k:Nat) (l0:List (S110)) (a1:Int) (a2:Int):Option ((List (S110))×(List (S110))):=I6.l0 k l0 a1 a2 (([]:List (S110))) (([]:List (S110))) 0
def N7.l0:Nat→List (S110)→Int→Int→Option (Int)
 | 0,_,_,_=>none
 | k+1,x0,x3,x4=>if x4<(x0.length:Int) then (if 0≤x4 then (N7.l0 k x0 (wrap64 (x3+((A4 x0 x4).f3))) (wrap64 (x4+1))) else (none)) else (some x3)
def N7.f (k:Nat) (l0:List (S110)):Option (Int):=N7.l0 k l0 0 0
def N8.l0:Nat→List (S106)→Int→Int→Int→Option (Int)
 | 0,_,_,_,_=>none
 | k+1,x0,x1,x2,x7=>if x7<(x0.length:Int) then (if 0≤x7 then (if ((C8 x0 x7).f0)=x1 then (if ((C8 x0 x7).f1)=x2 then (some ((C8 x0 x7).f2)) else (N8.l0 k x0 x1 x2 (wrap64 (x7+1)))) else (N8.l0 k x0 x1 x2 (wrap64 (x7+1)))) else (none)) else (some 0)
def N8.f (k:Nat) (l0:List (S106)) (a1:Int) (a2:Int):Option (Int):=N8.l0 k l0 a1 a2 0
mutual
def D4.l0:Nat→Int→List (S80)→List (S84)→List (S106)→List (S110)→List (S60)→Int→Option (Bool)
 | 0,_,_,_,_,_,_,_=>none
 | k+1,x3,x215000,x215001,x215002,x215003,x215004,x215005=>if x3<(x215003.length:Int) then (if 0≤x3 then ((C9.f k x215000 ((A4 x215003 x3).f0)).bind fun t217=>(if t217=1 then ((D6.f k x215001 ((A4 x215003 x3).f1)).bind fun t218=>(if t218=2 then (if ((A4 x215003 x3).f2)>x215005 then (some false) else (D4.l0 k (wrap64 (x3+1)) x215000 x215001 x215002 x215003 x215004 x215005)) else (some false))) else (some false))) else (none)) else (D4.l1 k 0 x215000 x215001 x215002 x215003 x215004 x215005)
def D4.l1:Nat→Int→List (S80)→List (S84)→List (S106)→List (S110)→List (S60)→Int→Option (Bool)
 | 0,_,_,_,_,_,_,_=>none
 | k+1,x5,x215000,x215001,x215002,x215003,x215004,x215005=>if x5<(x215000.length:Int) then (D4.l2 k x5 0 x215000 x215001 x215002 x215003 x215004 x215005) else (some true)
def D4.l2:Nat→Int→Int→List (S80)→List (S84)→List (S106)→List (S110)→List (S60)→Int→Option (Bool)
 | 0,_,_,_,_,_,_,_,_=>none
 | k+1,x5,x6,x215000,x215001,x215002,x215003,x215004,x215005=>if x6<(x215001.length:Int) then (if 0≤x5 then (if x5<(x215000.length:Int) then (if ((M2 x215000 x5).f1)=1 then (if 0≤x6 then (D4.j3 k x5 x6 (((M5 x215001 x6).f1) == 2) x215000 x215001 x215002 x215003 x215004 x215005) else (none)) else (D4.j3 k x5 x6 false x215000 x215001 x215002 x215003 x215004 x215005)) else (none)) else (none)) else (D4.l1 k (wrap64 (x5+1)) x215000 x215001 x215002 x215003 x215004 x215005)
def D4.j3:Nat→Int→Int→Bool→List (S80)→List (S84)→List (S106)→List (S110)→List (S60)→Int→Option (Bool)
 | 0,_,_,_,_,_,_,_,_,_=>none
 | k+1,x5,x6,x71,x215000,x215001,x215002,x215003,x215004,x215005=>if x71=true then (if 0≤x5 then (if x5<(x215000.length:Int) then (if 0≤x6 then (if x6<(x215001.length:Int) then ((I6.f k x215003 ((M2 x215000 x5).f0) ((M5 x215001 x6).f0)).bind fun bt223=>((N7.f k bt223.1).bind fun t229=>((N8.f k x215002 ((M2 x215000 x5).f0) ((M5 x215001 x6).f0)).bind fun t232=>(if t229=t232 then (D4.l2 k x5 (wrap64 (x6+1)) x215000 x215001 x215002 x215003 x215004 x215005) else (some false))))) else (none)) else (none)) else (none)) else (none)) else (D4.l2 k x5 (wrap64 (x6+1)) x215000 x215001 x215002 x215003 x215004 x215005)
end
def D4.f (k:Nat) (l0_0:List (S80)) (l0_1:List (S84)) (l0_2:List (S106)) (l0_3:List (S110)) (l0_4:List (S60)) (a0_5:Int):Option (Bool):=D4.l0 k 0 l0_0 l0_1 l0_2 l0_3 l0_4 a0_5
mutual
def F5.j0:Nat→Bool→List (S80)→List (S84)→List (S106)→List (S110)→List (S60)→Int→Option (Bool)
 | 0,_,_,_,_,_,_,_=>none
 | k+1,x48,x234000,x234001,x234002,x234003,x234004,x234005=>if x48=true then (some false) else (F5.l0 k 0 x234000 x234001 x234002 x234003 x234004 x234005)
def F5.l0:Nat→Int→List (S80)→List (S84)→List (S106)→List (S110)→List (S60)→Int→Option (Bool)
 | 0,_,_,_,_,_,_,_=>none
 | k+1,x3,x234000,x234001,x234002,x234003,x234004,x234005=>if x3<(x234004.length:Int) then (if 0≤x3 then ((C9.f k x234000 ((B7 x234004 x3).f1)).bind fun t244=>(if t244=1 then ((C9.f k x234000 ((B7 x234004 x3).f2)).bind fun t245=>(if t245=1 then ((D6.f k x234001 ((B7 x234004 x3).f3)).bind fun t246=>(if t246=2 then ((D6.f k x234001 ((B7 x234004 x3).f5)).bind fun t247=>(if t247=1 then (F5.l0 k (wrap64 (x3+1)) x234000 x234001 x234002 x234003 x234004 x234005) else (some false))) else (some false))) else (some false))) else (some false))) else (none)) else (some true)
end
def F5.f (k:Nat) (l0_0:List (S80)) (l0_1:List (S84)) (l0_2:List (S106)) (l0_3:List (S110)) (l0_4:List (S60)) (a0_5:Int):Option (Bool):=(G6.f k l0_0).bind fun t234=>(if t234=true then ((H9.f k l0_1).bind fun t235=>(if t235=true then ((I4.f k l0_2).bind fun t236=>(if t236=true then ((C7.f k l0_3).bind fun t237=>(if t237=true then ((J2.f k l0_4).bind fun t238=>(if t238=true then ((N9.f a0_5 0 1000000000).bind fun t239=>(if t239=true then ((F6.f k l0_0 l0_1 l0_2 l0_3 l0_4 a0_5).bind fun t240=>(if t240=true then ((D4.f k l0_0 l0_1 l0_2 l0_3 l0_4 a0_5).bind fun t241=>(F5.j0 k (!t241) l0_0 l0_1 l0_2 l0_3 l0_4 a0_5)) else (F5.j0 k true l0_0 l0_1 l0_2 l0_3 l0_4 a0_5))) else (F5.j0 k true l0_0 l0_1 l0_2 l0_3 l0_4 a0_5))) else (F5.j0 k true l0_0 l0_1 l0_2 l0_3 l0_4 a0_5))) else (F5.j0 k true l0_0 l0_1 l0_2 l0_3 l0_4 a0_5))) else (F5.j0 k true l0_0 l0_1 l0_2 l0_3 l0_4 a0_5))) else (F5.j0 k true l0_0 l0_1 l0_2 l0_3 l0_4 a0_5))) else (F5.j0 k true l0_0 l0_1 l0_2 l0_3 l0_4 a0_5))
def D5.f (l0_0:List (S80)) (l0_1:List (S84)) (l0_2:List (S106)) (l0_3:List (S110)) (l0_4:List (S60)) (a0_5:Int):Option ((List (S80))×(List (S84))×(List (S106))×(List (S110))×(List (S60))×Int):=(some (([]:List (S80)):List (S80))).bind fun y251=>(if y251.length+l0_0.length<8796093022208 then ((some (([]:List (S84)):List (S84))).bind fun y257=>(if y257.length+l0_1.length<8796093022208 then ((some (([]:List (S106)):List (S106))).bind fun y263=>(if y263.length+l0_2.length<5864062014805 then ((some (([]:List (S110)):List (S110))).bind fun y269=>(if y269.length+l0_3.length<3518437208883 then ((some (([]:List (S60)):List (S60))).bind fun y275=>(if y275.length+l0_4.length<2199023255552 then (some ((y251++l0_0),(y257++l0_1),(y263++l0_2),(y269++l0_3),(y275++l0_4),a0_5)) else (none))) else (none))) else (none))) else (none))) else (none))
end Go.Proofs.YtmfgajbkcnlkcaaGreat.P
namespace Go.Proofs.YtmfgajbkcnlkcaaGreat.P
open Go.RowKit Go.Proofs.YtmfgajbkcnlkcaaGreatW.PrintWords Go.Proofs.YtmfgajbkcnlkcaaGreatW.PrintLast Go.Proofs.YtmfgajbkcnlkcaaGreatW.PrintMore
attribute [local go_sem] Z7 Z5 A1h A1g W9 W8 Z6 Z4   -- for this text's walks alone
set_option linter.unusedVariables false
set_option linter.unusedSimpArgs false
def X5.f (a0_0:Int) (a0_1:Int):Option (Int×Int):=some (a0_0,a0_1)
def K3.l0:Nat→List (S103)→List (S80)→Int→Option ((List (S80)))
 | 0,_,_,_=>none
 | k+1,x0,x3,x4=>if x4<(x0.length:Int) then (if 0≤x4 then ((X5.f ((A4l x0 x4).f0) ((A4l x0 x4).f1)).bind fun bt317=>(if x4<(x3.length:Int) then (K3.l0 k x0 (x3.set (x4:Int).toNat (⟨bt317.1,bt317.2⟩:S80)) (wrap64 (x4+1))) else (none))) else (none)) else (some x3)
def K3.f (k:Nat) (l0:List (S103)):Option ((List (S80))):=if 0≤(l0.length:Int) then (if ((l0.length:Int):Int).toNat≤17592186044416 then (K3.l0 k l0 (List.replicate ((l0.length:Int):Int).toNat z80) 0) else (none)) else (none)
def A0d.f (a0_0:Int) (a0_1:Int):Option (Int×Int):=some (a0_0,a0_1)
def M8.l0:Nat→List (S105)→List (S84)→Int→Option ((List (S84)))
 | 0,_,_,_=>none
 | k+1,x0,x3,x4=>if x4<(x0.length:Int) then (if 0≤x4 then ((A0d.f ((A4k x0 x4).f0) ((A4k x0 x4).f1)).bind fun bt327=>(if x4<(x3.length:Int) then (M8.l0 k x0 (x3.set (x4:Int).toNat (⟨bt327.1,bt327.2⟩:S84)) (wrap64 (x4+1))) else (none))) else (none)) else (some x3)
def M8.f (k:Nat) (l0:List (S105)):Option ((List (S84))):=if 0≤(l0.length:Int) then (if ((l0.length:Int):Int).toNat≤17592186044416 then (M8.l0 k l0 (List.replicate ((l0.length:Int):Int).toNat z84) 0) else (none)) else (none)
def A1o.f (a0_0:Int) (a0_1:Int) (a0_2:Int):Option (Int×Int×Int):=some (a0_0,a0_1,a0_2)
def P2.l0:Nat→List (S108)→List (S106)→Int→Option ((List (S106)))
 | 0,_,_,_=>none
 | k+1,x0,x3,x4=>if x4<(x0.length:Int) then (if 0≤x4 then ((A1o.f ((A2k x0 x4).f0) ((A2k x0 x4).f1) ((A2k x0 x4).f2)).bind fun bt337=>(if x4<(x3.length:Int) then (P2.l0 k x0 (x3.set (x4:Int).toNat (⟨bt337.1,bt337.2.1,bt337.2.2⟩:S106)) (wrap64 (x4+1))) else (none))) else (none)) else (some x3)
def P2.f (k:Nat) (l0:List (S108)):Option ((List (S106))):=if 0≤(l0.length:Int) then (if ((l0.length:Int):Int).toNat≤11728124029610 then (P2.l0 k l0 (List.replicate ((l0.length:Int):Int).toNat z106) 0) else (none)) else (none)
def A1n.f (a0_0:Int) (a0_1:Int) (a0_2:Int) (a0_3:Int) (a0_4:Int):Option (Int×Int×Int×Int×Int):=some (a0_0,a0_1,a0_2,a0_3,a0_4)
def P1.l0:Nat→List (S112)→List (S110)→Int→Option ((List (S110)))
 | 0,_,_,_=>none
 | k+1,x0,x3,x4=>if x4<(x0.length:Int) then (if 0≤x4 then ((A1n.f ((A0i x0 x4).f0) ((A0i x0 x4).f1) ((A0i x0 x4).f2) ((A0i x0 x4).f3) ((A0i x0 x4).f4)).bind fun bt348=>(if x4<(x3.length:Int) then (P1.l0 k x0 (x3.set (x4:Int).toNat (⟨bt348.1,bt348.2.1,bt348.2.2.1,bt348.2.2.2.1,bt348.2.2.2.2⟩:S110)) (wrap64 (x4+1))) else (none))) else (none)) else (some x3)
def P1.f (k:Nat) (l0:List (S112)):Option ((List (S110))):=if 0≤(l0.length:Int) then (if ((l0.length:Int):Int).toNat≤7036874417766 then (P1.l0 k l0 (List.replicate ((l0.length:Int):Int).toNat z110) 0) else (none)) else (none)
def A0c.f (a0_0:Int) (a0_1:Int) (a0_2:Int) (a0_3:Int) (a0_4:Int) (a0_5:Int) (a0_6:Int) (a0_7:Int):Option (Int×Int×Int×Int×Int×Int×Int×Int):=some (a0_0,a0_1,a0_2,a0_3,a0_4,a0_5,a0_6,a0_7)
def M7.l0:Nat→List (S114)→List (S60)→Int→Option ((List (S60)))
 | 0,_,_,_=>none
 | k+1,x0,x3,x4=>if x4<(x0.length:Int) then (if 0≤x4 then ((A0c.f ((V0 x0 x4).f0) ((V0 x0 x4).f1) ((V0 x0 x4).f2) ((V0 x0 x4).f3) ((V0 x0 x4).f4) ((V0 x0 x4).f5) ((V0 x0 x4).f6) ((V0 x0 x4).f7)).bind fun bt361=>(if x4<(x3.length:Int) then (M7.l0 k x0 (x3.set (x4:Int).toNat (⟨bt361.1,bt361.2.1,bt361.2.2.1,bt361.2.2.2.1,bt361.2.2.2.2.1,bt361.2.2.2.2.2.1,bt361.2.2.2.2.2.2.1,bt361.2.2.2.2.2.2.2⟩:S60)) (wrap64 (x4+1))) else (none))) else (none)) else (some x3)
def M7.f (k:Nat) (l0:List (S114)):Option ((List (S60))):=if 0≤(l0.length:Int) then (if ((l0.length:Int):Int).toNat≤4398046511104 then (M7.l0 k l0 (List.replicate ((l0.length:Int):Int).toNat z60) 0) else (none)) else (none)
def R5.f (k:Nat) (l0_0:List (S103)) (l0_1:List (S105)) (l0_2:List (S108)) (l0_3:List (S112)) (l0_4:List (S114)) (a0_5:Int):Option ((List (S80))×(List (S84))×(List (S106))×(List (S110))×(List (S60))×Int):=(K3.f k l0_0).bind fun t373=>((M8.f k l0_1).bind fun t376=>((P2.f k l0_2).bind fun t379=>((P1.f k l0_3).bind fun t382=>((M7.f k l0_4).bind fun t385=>(some (t373,t376,t379,t382,t385,a0_5))))))
def J7.f (a0:Int) (a1:Int) (a2:Int):Option (Bool):=if a0≥a1 then (some (decide (a0≤a2))) else (some false)
def I5.f (a0:Int):Option (Bool):=(J7.f a0 1 1000).bind fun t388=>(some t388)
def H4.l0:Nat→List (S80)→List (S80)→Int→Int→Option (Bool)
 | 0,_,_,_,_=>none
 | k+1,x0,x5,x6,x7=>if x7<x6 then (if 0≤x7 then (if x7<(x5.length:Int) then ((I5.f ((M2 x5 x7).f0)).bind fun t391=>(if t391=true then ((J7.f ((M2 x5 x7).f1) 1 4).bind fun t392=>(if t392=true then (if x7>0 then (if 0≤(wrap64 (x7-1)) then (if (wrap64 (x7-1))<(x0.length:Int) then (if ((M2 x0 (wrap64 (x7-1))).f0)≥((M2 x5 x7).f0) then (some false) else (H4.l0 k x0 x5 x6 (wrap64 (x7+1)))) else (none)) else (none)) else (H4.l0 k x0 x5 x6 (wrap64 (x7+1)))) else (some false))) else (some false))) else (none)) else (none)) else (some (decide ((x0.length:Int)≤20)))
def H4.f (k:Nat) (l0:List (S80)):Option (Bool):=H4.l0 k l0 l0 (l0.length:Int) 0
def J4.l0:Nat→List (S84)→List (S84)→Int→Int→Option (Bool)
 | 0,_,_,_,_=>none
 | k+1,x0,x5,x6,x7=>if x7<x6 then (if 0≤x7 then (if x7<(x5.length:Int) then ((I5.f ((M5 x5 x7).f0)).bind fun t396=>(if t396=true then ((J7.f ((M5 x5 x7).f1) 1 2).bind fun t397=>(if t397=true then (if x7>0 then (if 0≤(wrap64 (x7-1)) then (if (wrap64 (x7-1))<(x0.length:Int) then (if ((M5 x0 (wrap64 (x7-1))).f0)≥((M5 x5 x7).f0) then (some false) else (J4.l0 k x0 x5 x6 (wrap64 (x7+1)))) else (none)) else (none)) else (J4.l0 k x0 x5 x6 (wrap64 (x7+1)))) else (some false))) else (some false))) else (none)) else (none)) else (some (decide ((x0.length:Int)≤8)))
def J4.f (k:Nat) (l0:List (S84)):Option (Bool):=J4.l0 k l0 l0 (l0.length:Int) 0
def L7.f (a0:Int):Option (Bool):=(J7.f a0 (-1000000000000000) 1000000000000000).bind fun t399=>(some t399)
def F8.j0:Nat→Int→Int→Int→Int→Bool→Option (Int)
 | 0,_,_,_,_,_=>none
 | k+1,x0,x1,x2,x3,x9=>if x9=true then (some (-1)) else (if x0=x2 then (if x1=x3 then (some 0) else (some 1)) else (some 1))
def F8.f (k:Nat) (a0:Int) (a1:Int) (a2:Int) (a3:Int):Option (Int):=if a0<a2 then (F8.j0 k a0 a1 a2 a3 true) else (if a0=a2 then (F8.j0 k a0 a1 a2 a3 (decide (a1<a3))) else (F8.j0 k a0 a1 a2 a3 false))
mutual
def G5.l0:Nat→List (S106)→List (S106)→Int→Int→Option (Bool)
 | 0,_,_,_,_=>none
 | k+1,x0,x5,x6,x7=>if x7<x6 then (if 0≤x7 then (if x7<(x5.length:Int) then ((I5.f ((C8 x5 x7).f0)).bind fun t402=>(if t402=true then ((I5.f ((C8 x5 x7).f1)).bind fun t403=>(if t403=true then ((L7.f ((C8 x5 x7).f2)).bind fun t404=>(if t404=true then (G5.j1 k x0 x7 x5 x6 x7 (((C8 x5 x7).f2) == 0) ((C8 x5 x7).f0) ((C8 x5 x7).f1) ((C8 x5 x7).f2)) else (G5.j1 k x0 x7 x5 x6 x7 true ((C8 x5 x7).f0) ((C8 x5 x7).f1) ((C8 x5 x7).f2)))) else (G5.j1 k x0 x7 x5 x6 x7 true ((C8 x5 x7).f0) ((C8 x5 x7).f1) ((C8 x5 x7).f2)))) else (G5.j1 k x0 x7 x5 x6 x7 true ((C8 x5 x7).f0) ((C8 x5 x7).f1) ((C8 x5 x7).f2)))) else (none)) else (none)) else (some (decide ((x0.length:Int)≤160)))
def G5.j1:Nat→List (S106)→Int→List (S106)→Int→Int→Bool→Int→Int→Int→Option (Bool)
 | 0,_,_,_,_,_,_,_,_,_=>none
 | k+1,x0,x3,x5,x6,x7,x32,x402000,x402001,x402002=>if x32=true then (some false) else (if x3>0 then (if 0≤(wrap64 (x3-1)) then (if (wrap64 (x3-1))<(x0.length:Int) then ((F8.f k ((C8 x0 (wrap64 (x3-1))).f0) ((C8 x0 (wrap64 (x3-1))).f1) x402000 x402001).bind fun t407=>(if t407≥0 then (some false) else (G5.l0 k x0 x5 x6 (wrap64 (x7+1))))) else (none)) else (none)) else (G5.l0 k x0 x5 x6 (wrap64 (x7+1))))
end
def G5.f (k:Nat) (l0:List (S106)):Option (Bool):=G5.l0 k l0 l0 (l0.length:Int) 0
def R9.f (a0_0:Int) (a0_1:Int) (a0_2:Int) (a0_3:Int) (a0_4:Int):Option (Bool):=(I5.f a0_0).bind fun t409=>(if t409=true then ((I5.f a0_1).bind fun t410=>(if t410=true then ((J7.f a0_2 1 1000000000).bind fun t411=>(if t411=true then ((J7.f a0_3 1 1000000000000000).bind fun t412=>(if t412=true then ((J7.f a0_4 0 1000000000000000).bind fun t413=>(some t413)) else (some false))) else (some false))) else (some false))) else (some false))
def L3.f (k:Nat) (a0_0:Int) (a0_1:Int) (a0_2:Int) (a0_3:Int) (a0_4:Int) (a1_0:Int) (a1_1:Int) (a1_2:Int) (a1_3:Int) (a1_4:Int):Option (Int):=(F8.f k a0_0 a0_1 a1_0 a1_1).bind fun t416=>(if t416=0 then (if a0_2<a1_2 then (some (-1)) else (if a0_2>a1_2 then (some 1) else (some 0))) else (some t416))
def H3.l0:Nat→Int→Int→List (S110)→Int→Int→Option (Int×Int)
 | 0,_,_,_,_,_=>none
 | k+1,x4,x5,x8,x9,x10=>if x10<x9 then (if 0≤x10 then (if x10<(x8.length:Int) then (H3.l0 k (wrap64 (x4+((A4 x8 x10).f3))) (wrap64 (x5+((A4 x8 x10).f4))) x8 x9 (wrap64 (x10+1))) else (none)) else (none)) else (some (x4,x5))
def H3.f (k:Nat) (l0:List (S110)):Option (Int×Int):=H3.l0 k 0 0 l0 (l0.length:Int) 0
def J1.f (l0:List (S110)):Option ((List (S110))):=(some (([]:List (S110)):List (S110))).bind fun y419=>(if y419.length+l0.length<3518437208883 then (some (y419++l0)) else (none))
def W3.f (a0_0:Int) (a0_1:Int) (a0_2:Int) (a0_3:Int) (a0_4:Int) (a1:Int) (a2:Int):Option (Bool):=if a0_0=a1 then (some (a0_1 == a2)) else (some false)
def F4.f (l0:List (S110)) (a1 a2:Int):Option (List (S110)):=if l0.length<1048577 then some (l0.filter fun x=>decide (x.f0=a1∧x.f1=a2)) else none
def A9.form (x:S110):Bool:=decide ((1≤x.f0∧x.f0≤1000)∧(1≤x.f1∧x.f1≤1000)∧(1≤x.f2∧x.f2≤1000000000)∧(1≤x.f3∧x.f3≤1000000000000000)∧0≤x.f4∧x.f4≤1000000000000000)
def A9.cmp (a b:S110):Int:=if a.f0<b.f0 then -1 else if b.f0<a.f0 then 1 else if a.f1<b.f1 then -1 else if b.f1<a.f1 then 1 else if a.f2<b.f2 then -1 else if b.f2<a.f2 then 1 else 0
def A9.chk (l:List (S110)):Nat→Nat→Bool
 | 0,_=>true
 | n+1,i=>if A9.form (l.getD i z110)=true∧¬(0<i∧0≤A9.cmp (l.getD (i-1) z110) (l.getD i z110)) then A9.chk l n (i+1) else false
def A9.sum3 (l:List (S110)) (q:Int):Int:=l.foldl (fun q x=>wrap64 (q+x.f3)) q
def A9.sum4 (l:List (S110)) (q:Int):Int:=l.foldl (fun q x=>wrap64 (q+x.f4)) q
def A9.amt (a:Int):Bool:=decide (-1000000000000000≤a∧a≤1000000000000000)
def A9.of (l:List (S110)) (a b:Int):List (S110):=l.filter fun x=>decide (x.f0=a∧x.f1=b)
def A9.over (l:List (S110)) (x:S110):Bool:=if A9.amt (A9.sum3 (A9.of l x.f0 x.f1) 0)=true then !A9.amt (A9.sum4 (A9.of l x.f0 x.f1) 0) else true
def A9.ok (l:List (S110)):Bool:=if A9.chk l l.length 0=true then (if (l.length:Int)>120 then false else !(l.any (A9.over l))) else false
def A9.f (l0:List (S110)):Option Bool:=if l0.length<1048577 then some (A9.ok l0) else none
mutual
def D8.l0:Nat→List (S60)→List (S60)→Int→Int→Option (Bool)
 | 0,_,_,_,_=>none
 | k+1,x0,x5,x6,x7=>if x7<x6 then (if 0≤x7 then (if x7<(x5.length:Int) then ((I5.f ((B7 x5 x7).f0)).bind fun t428=>(if t428=true then ((I5.f ((B7 x5 x7).f1)).bind fun t429=>(if t429=true then ((I5.f ((B7 x5 x7).f2)).bind fun t430=>(if t430=true then ((I5.f ((B7 x5 x7).f3)).bind fun t431=>(if t431=true then ((I5.f ((B7 x5 x7).f5)).bind fun t432=>(if t432=true then (D8.j1 k x0 x7 x5 x6 x7 (((B7 x5 x7).f1) == ((B7 x5 x7).f2)) ((B7 x5 x7).f0) ((B7 x5 x7).f1) ((B7 x5 x7).f2) ((B7 x5 x7).f3) ((B7 x5 x7).f4) ((B7 x5 x7).f5) ((B7 x5 x7).f6) ((B7 x5 x7).f7)) else (D8.j1 k x0 x7 x5 x6 x7 true ((B7 x5 x7).f0) ((B7 x5 x7).f1) ((B7 x5 x7).f2) ((B7 x5 x7).f3) ((B7 x5 x7).f4) ((B7 x5 x7).f5) ((B7 x5 x7).f6) ((B7 x5 x7).f7)))) else (D8.j1 k x0 x7 x5 x6 x7 true ((B7 x5 x7).f0) ((B7 x5 x7).f1) ((B7 x5 x7).f2) ((B7 x5 x7).f3) ((B7 x5 x7).f4) ((B7 x5 x7).f5) ((B7 x5 x7).f6) ((B7 x5 x7).f7)))) else (D8.j1 k x0 x7 x5 x6 x7 true ((B7 x5 x7).f0) ((B7 x5 x7).f1) ((B7 x5 x7).f2) ((B7 x5 x7).f3) ((B7 x5 x7).f4) ((B7 x5 x7).f5) ((B7 x5 x7).f6) ((B7 x5 x7).f7)))) else (D8.j1 k x0 x7 x5 x6 x7 true ((B7 x5 x7).f0) ((B7 x5 x7).f1) ((B7 x5 x7).f2) ((B7 x5 x7).f3) ((B7 x5 x7).f4) ((B7 x5 x7).f5) ((B7 x5 x7).f6) ((B7 x5 x7).f7)))) else (D8.j1 k x0 x7 x5 x6 x7 true ((B7 x5 x7).f0) ((B7 x5 x7).f1) ((B7 x5 x7).f2) ((B7 x5 x7).f3) ((B7 x5 x7).f4) ((B7 x5 x7).f5) ((B7 x5 x7).f6) ((B7 x5 x7).f7)))) else (none)) else (none)) else (some (decide ((x0.length:Int)≤30)))
def D8.j1:Nat→List (S60)→Int→List (S60)→Int→Int→Bool→Int→Int→Int→Int→Int→Int→Int→Int→Option (Bool)
 | 0,_,_,_,_,_,_,_,_,_,_,_,_,_,_=>none
 | k+1,x0,x3,x5,x6,x7,x46,x428000,x428001,x428002,x428003,x428004,x428005,x428006,x428007=>if x46=true then (some false) else ((J7.f x428004 1 1000000000000000).bind fun t433=>(if t433=true then ((J7.f x428006 0 1000000000000000).bind fun t434=>(if t434=true then ((J7.f x428007 1 3).bind fun t435=>(if t435=true then (if x3>0 then (if 0≤(wrap64 (x3-1)) then (if (wrap64 (x3-1))<(x0.length:Int) then (if ((B7 x0 (wrap64 (x3-1))).f0)≥x428000 then (some false) else (D8.l0 k x0 x5 x6 (wrap64 (x7+1)))) else (none)) else (none)) else (D8.l0 k x0 x5 x6 (wrap64 (x7+1)))) else (some false))) else (some false))) else (some false)))
end
def D8.f (k:Nat) (l0:List (S60)):Option (Bool):=D8.l0 k l0 l0 (l0.length:Int) 0
def D3.l0:Nat→Int→List (S80)→Int→Int→Option (Int)
 | 0,_,_,_,_=>none
 | k+1,x1,x7,x8,x9=>if x9<x8 then (if 0≤x9 then (if x9<(x7.length:Int) then (if ((M2 x7 x9).f0)=x1 then (some ((M2 x7 x9).f1)) else (D3.l0 k x1 x7 x8 (wrap64 (x9+1)))) else (none)) else (none)) else (some 0)
def D3.f (k:Nat) (l0:List (S80)) (a1:Int):Option (Int):=D3.l0 k a1 l0 (l0.length:Int) 0
def E8.l0:Nat→Int→List (S84)→Int→Int→Option (Int)
 | 0,_,_,_,_=>none
 | k+1,x1,x7,x8,x9=>if x9<x8 then (if 0≤x9 then (if x9<(x7.length:Int) then (if ((M5 x7 x9).f0)=x1 then (some ((M5 x7 x9).f1)) else (E8.l0 k x1 x7 x8 (wrap64 (x9+1)))) else (none)) else (none)) else (some 0)
def E8.f (k:Nat) (l0:List (S84)) (a1:Int):Option (Int):=E8.l0 k a1 l0 (l0.length:Int) 0
def H8.l0:Nat→Int→Int→List (S106)→Int→Int→Option (Int)
 | 0,_,_,_,_,_=>none
 | k+1,x1,x5,x8,x9,x10=>if x10<x9 then (if 0≤x10 then (if x10<(x8.length:Int) then (if ((C8 x8 x10).f1)=x1 then (H8.l0 k x1 (wrap64 (x5+((C8 x8 x10).f2))) x8 x9 (wrap64 (x10+1))) else (H8.l0 k x1 x5 x8 x9 (wrap64 (x10+1)))) else (none)) else (none)) else (some x5)
def H8.f (k:Nat) (l0:List (S106)) (a1:Int):Option (Int):=H8.l0 k a1 0 l0 (l0.length:Int) 0
def F9.l0:Nat→List (S106)→Int→Int→List (S80)→List (S84)→List (S106)→List (S110)→List (S60)→Int→Option (Bool)
 | 0,_,_,_,_,_,_,_,_,_=>none
 | k+1,x7,x8,x9,x444000,x444001,x444002,x444003,x444004,x444005=>if x9<x8 then (if 0≤x9 then (if x9<(x7.length:Int) then ((D3.f k x444000 ((C8 x7 x9).f0)).bind fun t446=>(if t446=0 then (some false) else ((E8.f k x444001 ((C8 x7 x9).f1)).bind fun t447=>(if t447=0 then (some false) else (if t446=1 then (if ((C8 x7 x9).f2)<0 then (some false) else ((H8.f k x444002 ((C8 x7 x9).f1)).bind fun t448=>(if t448=0 then (F9.l0 k x7 x8 (wrap64 (x9+1)) x444000 x444001 x444002 x444003 x444004 x444005) else (some false)))) else ((H8.f k x444002 ((C8 x7 x9).f1)).bind fun t449=>(if t449=0 then (F9.l0 k x7 x8 (wrap64 (x9+1)) x444000 x444001 x444002 x444003 x444004 x444005) else (some false)))))))) else (none)) else (none)) else (some true)
def F9.f (k:Nat) (l0_0:List (S80)) (l0_1:List (S84)) (l0_2:List (S106)) (l0_3:List (S110)) (l0_4:List (S60)) (a0_5:Int):Option (Bool):=F9.l0 k l0_2 (l0_2.length:Int) 0 l0_0 l0_1 l0_2 l0_3 l0_4 a0_5
def M0.l0:Nat→List (S106)→Int→Int→List (S106)→Int→Int→Option (Int×Bool)
 | 0,_,_,_,_,_,_=>none
 | k+1,x0,x1,x2,x11,x12,x13=>if x13<x12 then (if 0≤x13 then (if x13<(x11.length:Int) then ((F8.f k ((C8 x11 x13).f0) ((C8 x11 x13).f1) x1 x2).bind fun t452=>(if t452≥0 then (some (x13,(t452 == 0))) else (M0.l0 k x0 x1 x2 x11 x12 (wrap64 (x13+1))))) else (none)) else (none)) else (some ((x0.length:Int),false))
def M0.f (k:Nat) (l0:List (S106)) (a1:Int) (a2:Int):Option (Int×Bool):=M0.l0 k l0 a1 a2 l0 (l0.length:Int) 0
def R7.f (k:Nat) (l0:List (S106)) (a1:Int) (a2:Int):Option (Int):=(M0.f k l0 a1 a2).bind fun bt453=>(if bt453.2=true then (if 0≤bt453.1 then (if bt453.1<(l0.length:Int) then (some ((C8 l0 bt453.1).f2)) else (none)) else (none)) else (some 0))
end Go.Proofs.YtmfgajbkcnlkcaaGreat.P
namespace Go.Proofs.YtmfgajbkcnlkcaaGreat.P
open Go.RowKit Go.Proofs.YtmfgajbkcnlkcaaGreatW.PrintWords Go.Proofs.YtmfgajbkcnlkcaaGreatW.PrintLast Go.Proofs.YtmfgajbkcnlkcaaGreatW.PrintMore
attribute [local go_sem] Z7 Z5 A1h A1g W9 W8 Z6 Z4   -- for this text's walks alone
set_option linter.unusedVariables false
set_option linter.unusedSimpArgs false
mutual
def C6.l0:Nat→List (S110)→Int→Int→List (S80)→List (S84)→List (S106)→List (S110)→List (S60)→Int→Option (Bool)
 | 0,_,_,_,_,_,_,_,_,_=>none
 | k+1,x12,x13,x14,x457000,x457001,x457002,x457003,x457004,x457005=>if x14<x13 then (if 0≤x14 then (if x14<(x12.length:Int) then ((D3.f k x457000 ((A4 x12 x14).f0)).bind fun t459=>(if t459=1 then ((E8.f k x457001 ((A4 x12 x14).f1)).bind fun t460=>(if t460=2 then (if ((A4 x12 x14).f2)>x457005 then (some false) else (C6.l0 k x12 x13 (wrap64 (x14+1)) x457000 x457001 x457002 x457003 x457004 x457005)) else (some false))) else (some false))) else (none)) else (none)) else (C6.l1 k x457000 (x457000.length:Int) 0 x457000 x457001 x457002 x457003 x457004 x457005)
def C6.l1:Nat→List (S80)→Int→Int→List (S80)→List (S84)→List (S106)→List (S110)→List (S60)→Int→Option (Bool)
 | 0,_,_,_,_,_,_,_,_,_=>none
 | k+1,x41,x42,x43,x457000,x457001,x457002,x457003,x457004,x457005=>if x43<x42 then (if 0≤x43 then (if x43<(x41.length:Int) then (C6.l2 k x41 x42 x43 x457001 (x457001.length:Int) 0 x457000 x457001 x457002 x457003 x457004 x457005 ((M2 x41 x43).f0) ((M2 x41 x43).f1)) else (none)) else (none)) else (some true)
def C6.l2:Nat→List (S80)→Int→Int→List (S84)→Int→Int→List (S80)→List (S84)→List (S106)→List (S110)→List (S60)→Int→Int→Int→Option (Bool)
 | 0,_,_,_,_,_,_,_,_,_,_,_,_,_,_=>none
 | k+1,x41,x42,x43,x48,x49,x50,x457000,x457001,x457002,x457003,x457004,x457005,x463000,x463001=>if x50<x49 then (if 0≤x50 then (if x50<(x48.length:Int) then (if x463001=1 then (C6.j3 k x41 x42 x43 x48 x49 x50 (((M5 x48 x50).f1) != 2) x457000 x457001 x457002 x457003 x457004 x457005 x463000 x463001 ((M5 x48 x50).f0) ((M5 x48 x50).f1)) else (C6.j3 k x41 x42 x43 x48 x49 x50 true x457000 x457001 x457002 x457003 x457004 x457005 x463000 x463001 ((M5 x48 x50).f0) ((M5 x48 x50).f1))) else (none)) else (none)) else (C6.l1 k x41 x42 (wrap64 (x43+1)) x457000 x457001 x457002 x457003 x457004 x457005)
def C6.j3:Nat→List (S80)→Int→Int→List (S84)→Int→Int→Bool→List (S80)→List (S84)→List (S106)→List (S110)→List (S60)→Int→Int→Int→Int→Int→Option (Bool)
 | 0,_,_,_,_,_,_,_,_,_,_,_,_,_,_,_,_,_=>none
 | k+1,x41,x42,x43,x48,x49,x50,x61,x457000,x457001,x457002,x457003,x457004,x457005,x463000,x463001,x465000,x465001=>if x61=true then (C6.l2 k x41 x42 x43 x48 x49 (wrap64 (x50+1)) x457000 x457001 x457002 x457003 x457004 x457005 x463000 x463001) else ((F4.f x457003 x463000 x465000).bind fun t465=>((H3.f k t465).bind fun bt468=>((R7.f k x457002 x463000 x465000).bind fun t470=>(if bt468.1=t470 then (C6.l2 k x41 x42 x43 x48 x49 (wrap64 (x50+1)) x457000 x457001 x457002 x457003 x457004 x457005 x463000 x463001) else (some false)))))
end
def C6.f (k:Nat) (l0_0:List (S80)) (l0_1:List (S84)) (l0_2:List (S106)) (l0_3:List (S110)) (l0_4:List (S60)) (a0_5:Int):Option (Bool):=C6.l0 k l0_3 (l0_3.length:Int) 0 l0_0 l0_1 l0_2 l0_3 l0_4 a0_5
def B9.ak (l:List (S80)) (a:Int):Int:=match l with
 | []=>0
 | x::xs=>if x.f0=a then x.f1 else B9.ak xs a
def B9.ik (l:List (S84)) (a:Int):Int:=match l with
 | []=>0
 | x::xs=>if x.f0=a then x.f1 else B9.ik xs a
def B9.bad (l0:List (S80)) (l1:List (S84)) (x:S60):Bool:=(B9.ak l0 x.f1 != 1)||(B9.ak l0 x.f2 != 1)||(B9.ik l1 x.f3 != 2)||(B9.ik l1 x.f5 != 1)
def B9.f (l0_0:List (S80)) (l0_1:List (S84)) (_l0_2:List (S106)) (_l0_3:List (S110)) (l0_4:List (S60)) (_a0_5:Int):Option Bool:=if l0_0.length<1048577∧l0_1.length<1048577 then some (!(l0_4.any (B9.bad l0_0 l0_1))) else none
def J6.j0:Nat→Bool→List (S80)→List (S84)→List (S106)→List (S110)→List (S60)→Int→Option (Bool)
 | 0,_,_,_,_,_,_,_=>none
 | k+1,x36,x472000,x472001,x472002,x472003,x472004,x472005=>if x36=true then (some false) else ((F9.f k x472000 x472001 x472002 x472003 x472004 x472005).bind fun t478=>(if t478=true then ((C6.f k x472000 x472001 x472002 x472003 x472004 x472005).bind fun t479=>(if t479=true then ((B9.f x472000 x472001 x472002 x472003 x472004 x472005).bind fun t480=>(some t480)) else (some false))) else (some false)))
def J6.f (k:Nat) (l0_0:List (S80)) (l0_1:List (S84)) (l0_2:List (S106)) (l0_3:List (S110)) (l0_4:List (S60)) (a0_5:Int):Option (Bool):=(H4.f k l0_0).bind fun t472=>(if t472=true then ((J4.f k l0_1).bind fun t473=>(if t473=true then ((G5.f k l0_2).bind fun t474=>(if t474=true then ((A9.f l0_3).bind fun t475=>(if t475=true then ((D8.f k l0_4).bind fun t476=>(if t476=true then ((J7.f a0_5 0 1000000000).bind fun t477=>(J6.j0 k (!t477) l0_0 l0_1 l0_2 l0_3 l0_4 a0_5)) else (J6.j0 k true l0_0 l0_1 l0_2 l0_3 l0_4 a0_5))) else (J6.j0 k true l0_0 l0_1 l0_2 l0_3 l0_4 a0_5))) else (J6.j0 k true l0_0 l0_1 l0_2 l0_3 l0_4 a0_5))) else (J6.j0 k true l0_0 l0_1 l0_2 l0_3 l0_4 a0_5))) else (J6.j0 k true l0_0 l0_1 l0_2 l0_3 l0_4 a0_5))
def T0.f (l0:List (S80)):Option ((List (S80))):=(some (([]:List (S80)):List (S80))).bind fun y481=>(if y481.length+l0.length<8796093022208 then (some (y481++l0)) else (none))
def U7.f (l0:List (S84)):Option ((List (S84))):=(some (([]:List (S84)):List (S84))).bind fun y487=>(if y487.length+l0.length<8796093022208 then (some (y487++l0)) else (none))
def O2.f (l0:List (S106)):Option ((List (S106))):=(some (([]:List (S106)):List (S106))).bind fun y493=>(if y493.length+l0.length<5864062014805 then (some (y493++l0)) else (none))
def Z2.f (l0:List (S60)):Option ((List (S60))):=(some (([]:List (S60)):List (S60))).bind fun y499=>(if y499.length+l0.length<2199023255552 then (some (y499++l0)) else (none))
def E9.f (l0_0:List (S80)) (l0_1:List (S84)) (l0_2:List (S106)) (l0_3:List (S110)) (l0_4:List (S60)) (a0_5:Int):Option ((List (S80))×(List (S84))×(List (S106))×(List (S110))×(List (S60))×Int):=(T0.f l0_0).bind fun t507=>((U7.f l0_1).bind fun t510=>((O2.f l0_2).bind fun t513=>((J1.f l0_3).bind fun t516=>((Z2.f l0_4).bind fun t519=>(some (t507,t510,t513,t516,t519,a0_5))))))
def U9.f (a0_0:Int) (a0_1:Int) (a1_0:Int) (a1_1:Int):Option (Bool):=if a0_0=a1_0 then (if a0_1=a1_1 then (some true) else (some false)) else (some false)
def L0.l0:Nat→List (S80)→List (S80)→Int→Option (Bool)
 | 0,_,_,_=>none
 | k+1,x0,x1,x5=>if x5<(x0.length:Int) then (if 0≤x5 then (if x5<(x1.length:Int) then ((U9.f ((M2 x0 x5).f0) ((M2 x0 x5).f1) ((M2 x1 x5).f0) ((M2 x1 x5).f1)).bind fun t553=>(if t553=true then (L0.l0 k x0 x1 (wrap64 (x5+1))) else (some false))) else (none)) else (none)) else (some true)
def L0.f (k:Nat) (l0:List (S80)) (l1:List (S80)):Option (Bool):=if (l0.length:Int)=(l1.length:Int) then (L0.l0 k l0 l1 0) else (some false)
def Y2.f (a0_0:Int) (a0_1:Int) (a1_0:Int) (a1_1:Int):Option (Bool):=if a0_0=a1_0 then (if a0_1=a1_1 then (some true) else (some false)) else (some false)
def N5.l0:Nat→List (S84)→List (S84)→Int→Option (Bool)
 | 0,_,_,_=>none
 | k+1,x0,x1,x5=>if x5<(x0.length:Int) then (if 0≤x5 then (if x5<(x1.length:Int) then ((Y2.f ((M5 x0 x5).f0) ((M5 x0 x5).f1) ((M5 x1 x5).f0) ((M5 x1 x5).f1)).bind fun t558=>(if t558=true then (N5.l0 k x0 x1 (wrap64 (x5+1))) else (some false))) else (none)) else (none)) else (some true)
def N5.f (k:Nat) (l0:List (S84)) (l1:List (S84)):Option (Bool):=if (l0.length:Int)=(l1.length:Int) then (N5.l0 k l0 l1 0) else (some false)
def A0r.f (a0_0:Int) (a0_1:Int) (a0_2:Int) (a1_0:Int) (a1_1:Int) (a1_2:Int):Option (Bool):=if a0_0=a1_0 then (if a0_1=a1_1 then (if a0_2=a1_2 then (some true) else (some false)) else (some false)) else (some false)
def P4.l0:Nat→List (S106)→List (S106)→Int→Option (Bool)
 | 0,_,_,_=>none
 | k+1,x0,x1,x5=>if x5<(x0.length:Int) then (if 0≤x5 then (if x5<(x1.length:Int) then ((A0r.f ((C8 x0 x5).f0) ((C8 x0 x5).f1) ((C8 x0 x5).f2) ((C8 x1 x5).f0) ((C8 x1 x5).f1) ((C8 x1 x5).f2)).bind fun t563=>(if t563=true then (P4.l0 k x0 x1 (wrap64 (x5+1))) else (some false))) else (none)) else (none)) else (some true)
def P4.f (k:Nat) (l0:List (S106)) (l1:List (S106)):Option (Bool):=if (l0.length:Int)=(l1.length:Int) then (P4.l0 k l0 l1 0) else (some false)
def A0q.f (a0_0:Int) (a0_1:Int) (a0_2:Int) (a0_3:Int) (a0_4:Int) (a1_0:Int) (a1_1:Int) (a1_2:Int) (a1_3:Int) (a1_4:Int):Option (Bool):=if a0_0=a1_0 then (if a0_1=a1_1 then (if a0_2=a1_2 then (if a0_3=a1_3 then (if a0_4=a1_4 then (some true) else (some false)) else (some false)) else (some false)) else (some false)) else (some false)
def P3.l0:Nat→List (S110)→List (S110)→Int→Option (Bool)
 | 0,_,_,_=>none
 | k+1,x0,x1,x5=>if x5<(x0.length:Int) then (if 0≤x5 then (if x5<(x1.length:Int) then ((A0q.f ((A4 x0 x5).f0) ((A4 x0 x5).f1) ((A4 x0 x5).f2) ((A4 x0 x5).f3) ((A4 x0 x5).f4) ((A4 x1 x5).f0) ((A4 x1 x5).f1) ((A4 x1 x5).f2) ((A4 x1 x5).f3) ((A4 x1 x5).f4)).bind fun t568=>(if t568=true then (P3.l0 k x0 x1 (wrap64 (x5+1))) else (some false))) else (none)) else (none)) else (some true)
def P3.f (k:Nat) (l0:List (S110)) (l1:List (S110)):Option (Bool):=if (l0.length:Int)=(l1.length:Int) then (P3.l0 k l0 l1 0) else (some false)
def Y1.f (a0_0:Int) (a0_1:Int) (a0_2:Int) (a0_3:Int) (a0_4:Int) (a0_5:Int) (a0_6:Int) (a0_7:Int) (a1_0:Int) (a1_1:Int) (a1_2:Int) (a1_3:Int) (a1_4:Int) (a1_5:Int) (a1_6:Int) (a1_7:Int):Option (Bool):=if a0_0=a1_0 then (if a0_1=a1_1 then (if a0_2=a1_2 then (if a0_3=a1_3 then (if a0_4=a1_4 then (if a0_5=a1_5 then (if a0_6=a1_6 then (if a0_7=a1_7 then (some true) else (some false)) else (some false)) else (some false)) else (some false)) else (some false)) else (some false)) else (some false)) else (some false)
def N4.l0:Nat→List (S60)→List (S60)→Int→Option (Bool)
 | 0,_,_,_=>none
 | k+1,x0,x1,x5=>if x5<(x0.length:Int) then (if 0≤x5 then (if x5<(x1.length:Int) then ((Y1.f ((B7 x0 x5).f0) ((B7 x0 x5).f1) ((B7 x0 x5).f2) ((B7 x0 x5).f3) ((B7 x0 x5).f4) ((B7 x0 x5).f5) ((B7 x0 x5).f6) ((B7 x0 x5).f7) ((B7 x1 x5).f0) ((B7 x1 x5).f1) ((B7 x1 x5).f2) ((B7 x1 x5).f3) ((B7 x1 x5).f4) ((B7 x1 x5).f5) ((B7 x1 x5).f6) ((B7 x1 x5).f7)).bind fun t573=>(if t573=true then (N4.l0 k x0 x1 (wrap64 (x5+1))) else (some false))) else (none)) else (none)) else (some true)
def N4.f (k:Nat) (l0:List (S60)) (l1:List (S60)):Option (Bool):=if (l0.length:Int)=(l1.length:Int) then (N4.l0 k l0 l1 0) else (some false)
def R6.f (k:Nat) (l0_0:List (S80)) (l0_1:List (S84)) (l0_2:List (S106)) (l0_3:List (S110)) (l0_4:List (S60)) (a0_5:Int) (l1_0:List (S80)) (l1_1:List (S84)) (l1_2:List (S106)) (l1_3:List (S110)) (l1_4:List (S60)) (a1_5:Int):Option (Bool):=(L0.f k l0_0 l1_0).bind fun t576=>(if t576=true then ((N5.f k l0_1 l1_1).bind fun t577=>(if t577=true then ((P4.f k l0_2 l1_2).bind fun t578=>(if t578=true then ((P3.f k l0_3 l1_3).bind fun t579=>(if t579=true then ((N4.f k l0_4 l1_4).bind fun t580=>(if t580=true then (if a0_5=a1_5 then (some true) else (some false)) else (some false))) else (some false))) else (some false))) else (some false))) else (some false))
def I9.l0:Nat→List (S80)→Int→Int→Option (Int×(List (S80)))
 | 0,_,_,_=>none
 | k+1,x0,x1,x5=>if x5<(x0.length:Int) then (if 0≤x5 then ((some (x0.set (x5:Int).toNat (⟨x1,(M2 x0 x5).f1⟩:S80):List (S80))).bind fun y581=>(I9.l0 k (y581.set (x5:Int).toNat (⟨(M2 y581 x5).f0,wrap64 (x1+1)⟩:S80)) (wrap64 ((wrap64 (x1+1))+1)) (wrap64 (x5+1)))) else (none)) else (some (x1,x0))
def I9.f (k:Nat) (l0:List (S80)) (a1:Int):Option (Int×(List (S80))):=I9.l0 k l0 a1 0
def K5.l0:Nat→List (S84)→Int→Int→Option (Int×(List (S84)))
 | 0,_,_,_=>none
 | k+1,x0,x1,x5=>if x5<(x0.length:Int) then (if 0≤x5 then ((some (x0.set (x5:Int).toNat (⟨x1,(M5 x0 x5).f1⟩:S84):List (S84))).bind fun y583=>(K5.l0 k (y583.set (x5:Int).toNat (⟨(M5 y583 x5).f0,wrap64 (x1+1)⟩:S84)) (wrap64 ((wrap64 (x1+1))+1)) (wrap64 (x5+1)))) else (none)) else (some (x1,x0))
def K5.f (k:Nat) (l0:List (S84)) (a1:Int):Option (Int×(List (S84))):=K5.l0 k l0 a1 0
def N0.l0:Nat→List (S106)→Int→Int→Option (Int×(List (S106)))
 | 0,_,_,_=>none
 | k+1,x0,x1,x5=>if x5<(x0.length:Int) then (if 0≤x5 then ((some (x0.set (x5:Int).toNat (⟨x1,(C8 x0 x5).f1,(C8 x0 x5).f2⟩:S106):List (S106))).bind fun y585=>((some (y585.set (x5:Int).toNat (⟨(C8 y585 x5).f0,wrap64 (x1+1),(C8 y585 x5).f2⟩:S106):List (S106))).bind fun y586=>(N0.l0 k (y586.set (x5:Int).toNat (⟨(C8 y586 x5).f0,(C8 y586 x5).f1,wrap64 ((wrap64 (x1+1))+1)⟩:S106)) (wrap64 ((wrap64 ((wrap64 (x1+1))+1))+1)) (wrap64 (x5+1))))) else (none)) else (some (x1,x0))
def N0.f (k:Nat) (l0:List (S106)) (a1:Int):Option (Int×(List (S106))):=N0.l0 k l0 a1 0
def M9.l0:Nat→List (S110)→Int→Int→Option (Int×(List (S110)))
 | 0,_,_,_=>none
 | k+1,x0,x1,x5=>if x5<(x0.length:Int) then (if 0≤x5 then ((some (x0.set (x5:Int).toNat (⟨x1,(A4 x0 x5).f1,(A4 x0 x5).f2,(A4 x0 x5).f3,(A4 x0 x5).f4⟩:S110):List (S110))).bind fun y588=>((some (y588.set (x5:Int).toNat (⟨(A4 y588 x5).f0,wrap64 (x1+1),(A4 y588 x5).f2,(A4 y588 x5).f3,(A4 y588 x5).f4⟩:S110):List (S110))).bind fun y589=>((some (y589.set (x5:Int).toNat (⟨(A4 y589 x5).f0,(A4 y589 x5).f1,wrap64 ((wrap64 (x1+1))+1),(A4 y589 x5).f3,(A4 y589 x5).f4⟩:S110):List (S110))).bind fun y590=>((some (y590.set (x5:Int).toNat (⟨(A4 y590 x5).f0,(A4 y590 x5).f1,(A4 y590 x5).f2,wrap64 ((wrap64 ((wrap64 (x1+1))+1))+1),(A4 y590 x5).f4⟩:S110):List (S110))).bind fun y591=>(M9.l0 k (y591.set (x5:Int).toNat (⟨(A4 y591 x5).f0,(A4 y591 x5).f1,(A4 y591 x5).f2,(A4 y591 x5).f3,wrap64 ((wrap64 ((wrap64 ((wrap64 (x1+1))+1))+1))+1)⟩:S110)) (wrap64 ((wrap64 ((wrap64 ((wrap64 ((wrap64 (x1+1))+1))+1))+1))+1)) (wrap64 (x5+1))))))) else (none)) else (some (x1,x0))
def M9.f (k:Nat) (l0:List (S110)) (a1:Int):Option (Int×(List (S110))):=M9.l0 k l0 a1 0
def K4.l0:Nat→List (S60)→Int→Int→Option (Int×(List (S60)))
 | 0,_,_,_=>none
 | k+1,x0,x1,x5=>if x5<(x0.length:Int) then (if 0≤x5 then ((some (x0.set (x5:Int).toNat (⟨x1,(B7 x0 x5).f1,(B7 x0 x5).f2,(B7 x0 x5).f3,(B7 x0 x5).f4,(B7 x0 x5).f5,(B7 x0 x5).f6,(B7 x0 x5).f7⟩:S60):List (S60))).bind fun y593=>((some (y593.set (x5:Int).toNat (⟨(B7 y593 x5).f0,wrap64 (x1+1),(B7 y593 x5).f2,(B7 y593 x5).f3,(B7 y593 x5).f4,(B7 y593 x5).f5,(B7 y593 x5).f6,(B7 y593 x5).f7⟩:S60):List (S60))).bind fun y594=>((some (y594.set (x5:Int).toNat (⟨(B7 y594 x5).f0,(B7 y594 x5).f1,wrap64 ((wrap64 (x1+1))+1),(B7 y594 x5).f3,(B7 y594 x5).f4,(B7 y594 x5).f5,(B7 y594 x5).f6,(B7 y594 x5).f7⟩:S60):List (S60))).bind fun y595=>((some (y595.set (x5:Int).toNat (⟨(B7 y595 x5).f0,(B7 y595 x5).f1,(B7 y595 x5).f2,wrap64 ((wrap64 ((wrap64 (x1+1))+1))+1),(B7 y595 x5).f4,(B7 y595 x5).f5,(B7 y595 x5).f6,(B7 y595 x5).f7⟩:S60):List (S60))).bind fun y596=>((some (y596.set (x5:Int).toNat (⟨(B7 y596 x5).f0,(B7 y596 x5).f1,(B7 y596 x5).f2,(B7 y596 x5).f3,wrap64 ((wrap64 ((wrap64 ((wrap64 (x1+1))+1))+1))+1),(B7 y596 x5).f5,(B7 y596 x5).f6,(B7 y596 x5).f7⟩:S60):List (S60))).bind fun y597=>((some (y597.set (x5:Int).toNat (⟨(B7 y597 x5).f0,(B7 y597 x5).f1,(B7 y597 x5).f2,(B7 y597 x5).f3,(B7 y597 x5).f4,wrap64 ((wrap64 ((wrap64 ((wrap64 ((wrap64 (x1+1))+1))+1))+1))+1),(B7 y597 x5).f6,(B7 y597 x5).f7⟩:S60):List (S60))).bind fun y598=>((some (y598.set (x5:Int).toNat (⟨(B7 y598 x5).f0,(B7 y598 x5).f1,(B7 y598 x5).f2,(B7 y598 x5).f3,(B7 y598 x5).f4,(B7 y598 x5).f5,wrap64 ((wrap64 ((wrap64 ((wrap64 ((wrap64 ((wrap64 (x1+1))+1))+1))+1))+1))+1),(B7 y598 x5).f7⟩:S60):List (S60))).bind fun y599=>(K4.l0 k (y599.set (x5:Int).toNat (⟨(B7 y599 x5).f0,(B7 y599 x5).f1,(B7 y599 x5).f2,(B7 y599 x5).f3,(B7 y599 x5).f4,(B7 y599 x5).f5,(B7 y599 x5).f6,wrap64 ((wrap64 ((wrap64 ((wrap64 ((wrap64 ((wrap64 ((wrap64 (x1+1))+1))+1))+1))+1))+1))+1)⟩:S60)) (wrap64 ((wrap64 ((wrap64 ((wrap64 ((wrap64 ((wrap64 ((wrap64 ((wrap64 (x1+1))+1))+1))+1))+1))+1))+1))+1)) (wrap64 (x5+1)))))))))) else (none)) else (some (x1,x0))
def K4.f (k:Nat) (l0:List (S60)) (a1:Int):Option (Int×(List (S60))):=K4.l0 k l0 a1 0
def S6.f (k:Nat) (l0_0:List (S80)) (l0_1:List (S84)) (l0_2:List (S106)) (l0_3:List (S110)) (l0_4:List (S60)) (a0_5:Int) (a1:Int):Option (Int×(List (S80))×(List (S84))×(List (S106))×(List (S110))×(List (S60))):=(I9.f k l0_0 a1).bind fun bt602=>((K5.f k l0_1 bt602.1).bind fun bt604=>((N0.f k l0_2 bt604.1).bind fun bt606=>((M9.f k l0_3 bt606.1).bind fun bt608=>((K4.f k l0_4 bt608.1).bind fun bt610=>(some (bt610.1,bt602.2,bt604.2,bt606.2,bt608.2,bt610.2))))))
def J0.l0:Nat→List (S80)→Int→Int→Option (Int)
 | 0,_,_,_=>none
 | k+1,x0,x1,x5=>if x5<(x0.length:Int) then (if 0≤x5 then (if ((M2 x0 x5).f0)=x1 then (if ((M2 x0 x5).f1)=(wrap64 (x1+1)) then (J0.l0 k x0 (wrap64 ((wrap64 (x1+1))+1)) (wrap64 (x5+1))) else (some (-1))) else (some (-1))) else (none)) else (some x1)
def J0.f (k:Nat) (l0:List (S80)) (a1:Int):Option (Int):=J0.l0 k l0 a1 0
def K9.l0:Nat→List (S84)→Int→Int→Option (Int)
 | 0,_,_,_=>none
 | k+1,x0,x1,x5=>if x5<(x0.length:Int) then (if 0≤x5 then (if ((M5 x0 x5).f0)=x1 then (if ((M5 x0 x5).f1)=(wrap64 (x1+1)) then (K9.l0 k x0 (wrap64 ((wrap64 (x1+1))+1)) (wrap64 (x5+1))) else (some (-1))) else (some (-1))) else (none)) else (some x1)
def K9.f (k:Nat) (l0:List (S84)) (a1:Int):Option (Int):=K9.l0 k l0 a1 0
def N3.l0:Nat→List (S106)→Int→Int→Option (Int)
 | 0,_,_,_=>none
 | k+1,x0,x1,x5=>if x5<(x0.length:Int) then (if 0≤x5 then (if ((C8 x0 x5).f0)=x1 then (if ((C8 x0 x5).f1)=(wrap64 (x1+1)) then (if ((C8 x0 x5).f2)=(wrap64 ((wrap64 (x1+1))+1)) then (N3.l0 k x0 (wrap64 ((wrap64 ((wrap64 (x1+1))+1))+1)) (wrap64 (x5+1))) else (some (-1))) else (some (-1))) else (some (-1))) else (none)) else (some x1)
def N3.f (k:Nat) (l0:List (S106)) (a1:Int):Option (Int):=N3.l0 k l0 a1 0
def N2.l0:Nat→List (S110)→Int→Int→Option (Int)
 | 0,_,_,_=>none
 | k+1,x0,x1,x5=>if x5<(x0.length:Int) then (if 0≤x5 then (if ((A4 x0 x5).f0)=x1 then (if ((A4 x0 x5).f1)=(wrap64 (x1+1)) then (if ((A4 x0 x5).f2)=(wrap64 ((wrap64 (x1+1))+1)) then (if ((A4 x0 x5).f3)=(wrap64 ((wrap64 ((wrap64 (x1+1))+1))+1)) then (if ((A4 x0 x5).f4)=(wrap64 ((wrap64 ((wrap64 ((wrap64 (x1+1))+1))+1))+1)) then (N2.l0 k x0 (wrap64 ((wrap64 ((wrap64 ((wrap64 ((wrap64 (x1+1))+1))+1))+1))+1)) (wrap64 (x5+1))) else (some (-1))) else (some (-1))) else (some (-1))) else (some (-1))) else (some (-1))) else (none)) else (some x1)
def N2.f (k:Nat) (l0:List (S110)) (a1:Int):Option (Int):=N2.l0 k l0 a1 0
def K6.l0:Nat→List (S60)→Int→Int→Option (Int)
 | 0,_,_,_=>none
 | k+1,x0,x1,x5=>if x5<(x0.length:Int) then (if 0≤x5 then (if ((B7 x0 x5).f0)=x1 then (if ((B7 x0 x5).f1)=(wrap64 (x1+1)) then (if ((B7 x0 x5).f2)=(wrap64 ((wrap64 (x1+1))+1)) then (if ((B7 x0 x5).f3)=(wrap64 ((wrap64 ((wrap64 (x1+1))+1))+1)) then (if ((B7 x0 x5).f4)=(wrap64 ((wrap64 ((wrap64 ((wrap64 (x1+1))+1))+1))+1)) then (if ((B7 x0 x5).f5)=(wrap64 ((wrap64 ((wrap64 ((wrap64 ((wrap64 (x1+1))+1))+1))+1))+1)) then (if ((B7 x0 x5).f6)=(wrap64 ((wrap64 ((wrap64 ((wrap64 ((wrap64 ((wrap64 (x1+1))+1))+1))+1))+1))+1)) then (if ((B7 x0 x5).f7)=(wrap64 ((wrap64 ((wrap64 ((wrap64 ((wrap64 ((wrap64 ((wrap64 (x1+1))+1))+1))+1))+1))+1))+1)) then (K6.l0 k x0 (wrap64 ((wrap64 ((wrap64 ((wrap64 ((wrap64 ((wrap64 ((wrap64 ((wrap64 (x1+1))+1))+1))+1))+1))+1))+1))+1)) (wrap64 (x5+1))) else (some (-1))) else (some (-1))) else (some (-1))) else (some (-1))) else (some (-1))) else (some (-1))) else (some (-1))) else (some (-1))) else (none)) else (some x1)
def K6.f (k:Nat) (l0:List (S60)) (a1:Int):Option (Int):=K6.l0 k l0 a1 0
end Go.Proofs.YtmfgajbkcnlkcaaGreat.P
namespace Go.Proofs.YtmfgajbkcnlkcaaGreat.P
open Go.RowKit Go.Proofs.YtmfgajbkcnlkcaaGreatW.PrintWords Go.Proofs.YtmfgajbkcnlkcaaGreatW.PrintLast Go.Proofs.YtmfgajbkcnlkcaaGreatW.PrintMore
attribute [local go_sem] Z7 Z5 A1h A1g W9 W8 Z6 Z4   -- for this text's walks alone
set_option linter.unusedVariables false
set_option linter.unusedSimpArgs false
def S7.f (k:Nat) (l0_0:List (S80)) (l0_1:List (S84)) (l0_2:List (S106)) (l0_3:List (S110)) (l0_4:List (S60)) (a0_5:Int) (a1:Int):Option (Int):=(J0.f k l0_0 a1).bind fun t633=>(if t633<0 then (some (-1)) else ((K9.f k l0_1 t633).bind fun t634=>(if t634<0 then (some (-1)) else ((N3.f k l0_2 t634).bind fun t635=>(if t635<0 then (some (-1)) else ((N2.f k l0_3 t635).bind fun t636=>(if t636<0 then (some (-1)) else ((K6.f k l0_4 t636).bind fun t637=>(if t637<0 then (some (-1)) else (some t637))))))))))
def H2.l0:Nat→List (S93)→Int→Option (Bool)
 | 0,_,_=>none
 | k+1,x0,x3=>if x3<(x0.length:Int) then (if 0≤x3 then ((I3.f ((K2 x0 x3).f0)).bind fun t1098=>(if t1098=true then ((I3.f ((K2 x0 x3).f1)).bind fun t1100=>(if t1100=true then ((M4.f ((K2 x0 x3).f2)).bind fun t1102=>(if t1102=true then (H2.l0 k x0 (wrap64 (x3+1))) else (some false))) else (some false))) else (some false))) else (none)) else (some true)
def H2.f (k:Nat) (l0:List (S93)):Option (Bool):=if (l0.length:Int)>160 then (some false) else (H2.l0 k l0 0)
mutual
def H5.l0:Nat→List (S93)→Int→Option (Bool)
 | 0,_,_=>none
 | k+1,x0,x3=>if x3<(x0.length:Int) then (H5.l1 k x0 x3 0 0) else (some true)
def H5.l1:Nat→List (S93)→Int→Int→Int→Option (Bool)
 | 0,_,_,_,_=>none
 | k+1,x0,x3,x4,x5=>if x5<(x0.length:Int) then (if 0≤x5 then (if 0≤x3 then (if x3<(x0.length:Int) then (if ((K2 x0 x5).f1)=((K2 x0 x3).f1) then (H5.l1 k x0 x3 (wrap64 (x4+((K2 x0 x5).f2))) (wrap64 (x5+1))) else (H5.l1 k x0 x3 x4 (wrap64 (x5+1)))) else (none)) else (none)) else (none)) else (if x4=0 then (H5.l0 k x0 (wrap64 (x3+1))) else (some false))
end
def H5.f (k:Nat) (l0:List (S93)):Option (Bool):=(H2.f k l0).bind fun t1103=>(if t1103=true then (H5.l0 k l0 0) else (some false))
def Y8.f (a0:Int) (a1:Int):Option (Int×Bool):=(M4.f a0).bind fun t1107=>(if t1107=true then ((M4.f a1).bind fun t1108=>((S9.f (wrap64 (a0+a1)) t1108).bind fun bt1109=>(some (bt1109.1,bt1109.2)))) else ((S9.f (wrap64 (a0+a1)) false).bind fun bt1111=>(some (bt1111.1,bt1111.2))))
mutual
def G2.l0:Nat→List (S106)→Int→Int→List (S106)→Bool→Int→Int→Int→Int→Option ((List (S106)))
 | 0,_,_,_,_,_,_,_,_,_=>none
 | k+1,x0,x1,x2,x9,x10,x12,x1117000,x1117001,x1117002=>if x12<(x0.length:Int) then (if 0≤x12 then (if x10=true then (G2.j1 k x0 x1 x2 x9 x10 x12 false x1117000 x1117001 x1117002 ((C8 x0 x12).f0) ((C8 x0 x12).f1) ((C8 x0 x12).f2)) else ((Q9.f ((C8 x0 x12).f0) ((C8 x0 x12).f1) x1 x2).bind fun t1122=>(G2.j1 k x0 x1 x2 x9 x10 x12 (!t1122) x1117000 x1117001 x1117002 ((C8 x0 x12).f0) ((C8 x0 x12).f1) ((C8 x0 x12).f2)))) else (none)) else (if x10=true then (some x9) else (if x9.length<5864062014805 then (some (x9++[(⟨x1117000,x1117001,x1117002⟩:S106)])) else (none)))
def G2.j1:Nat→List (S106)→Int→Int→List (S106)→Bool→Int→Bool→Int→Int→Int→Int→Int→Int→Option ((List (S106)))
 | 0,_,_,_,_,_,_,_,_,_,_,_,_,_=>none
 | k+1,x0,x1,x2,x9,x10,x12,x42,x1117000,x1117001,x1117002,x1122000,x1122001,x1122002=>if x42=true then (if x9.length<5864062014805 then ((some (x9++[(⟨x1117000,x1117001,x1117002⟩:S106)]:List (S106))).bind fun y1123=>(if x1122000=x1 then (if x1122001=x2 then (G2.l0 k x0 x1 x2 y1123 true (wrap64 (x12+1)) x1117000 x1117001 x1117002) else (if y1123.length<5864062014805 then (G2.l0 k x0 x1 x2 (y1123++[(⟨x1122000,x1122001,x1122002⟩:S106)]) true (wrap64 (x12+1)) x1117000 x1117001 x1117002) else (none))) else (if y1123.length<5864062014805 then (G2.l0 k x0 x1 x2 (y1123++[(⟨x1122000,x1122001,x1122002⟩:S106)]) true (wrap64 (x12+1)) x1117000 x1117001 x1117002) else (none)))) else (none)) else (if x1122000=x1 then (if x1122001=x2 then (G2.l0 k x0 x1 x2 x9 x10 (wrap64 (x12+1)) x1117000 x1117001 x1117002) else (if x9.length<5864062014805 then (G2.l0 k x0 x1 x2 (x9++[(⟨x1122000,x1122001,x1122002⟩:S106)]) x10 (wrap64 (x12+1)) x1117000 x1117001 x1117002) else (none))) else (if x9.length<5864062014805 then (G2.l0 k x0 x1 x2 (x9++[(⟨x1122000,x1122001,x1122002⟩:S106)]) x10 (wrap64 (x12+1)) x1117000 x1117001 x1117002) else (none)))
end
def G2.f (k:Nat) (l0:List (S106)) (a1:Int) (a2:Int) (a3:Int):Option ((List (S106))):=G2.l0 k l0 a1 a2 (([]:List (S106))) (a3 == 0) 0 a1 a2 a3
def P5.l0:Nat→List Int→Int→Int→Option (Bool)
 | 0,_,_,_=>none
 | k+1,x0,x1,x5=>if x5<(x0.length:Int) then (if 0≤x5 then (if (rd x0 x5)=x1 then (some true) else (P5.l0 k x0 x1 (wrap64 (x5+1)))) else (none)) else (some false)
def P5.f (k:Nat) (l0:List Int) (a1:Int):Option (Bool):=P5.l0 k l0 a1 0
mutual
def D7.j0:Nat→List (S106)→List (S93)→List Int→Bool→Option ((List (S106))×Int)
 | 0,_,_,_,_=>none
 | k+1,x0,x1,x2,x26=>if x26=true then (some ((([]:List (S106))),1)) else ((some (([]:List (S106)):List (S106))).bind fun y1144=>(if y1144.length+x0.length<5864062014805 then ((some (y1144++x0:List (S106))).bind fun y1147=>((H5.f k x1).bind fun t1150=>(if t1150=true then (D7.l0 k x0 x1 x2 y1147 0) else (some (y1147,2))))) else (none)))
def D7.l0:Nat→List (S106)→List (S93)→List Int→List (S106)→Int→Option ((List (S106))×Int)
 | 0,_,_,_,_,_=>none
 | k+1,x0,x1,x2,x9,x10=>if x10<(x1.length:Int) then (if 0≤x10 then ((N8.f k x9 ((K2 x1 x10).f0) ((K2 x1 x10).f1)).bind fun t1153=>((Y8.f t1153 ((K2 x1 x10).f2)).bind fun bt1155=>(if bt1155.2=true then ((G2.f k x9 ((K2 x1 x10).f0) ((K2 x1 x10).f1) bt1155.1).bind fun t1159=>(D7.l0 k x0 x1 x2 t1159 (wrap64 (x10+1)))) else ((some (([]:List (S106)):List (S106))).bind fun y1162=>(if y1162.length+x0.length<5864062014805 then (some ((y1162++x0),4)) else (none)))))) else (none)) else (D7.l1 k x0 x1 x2 x9 0)
def D7.l1:Nat→List (S106)→List (S93)→List Int→List (S106)→Int→Option ((List (S106))×Int)
 | 0,_,_,_,_,_=>none
 | k+1,x0,x1,x2,x9,x13=>if x13<(x1.length:Int) then (if 0≤x13 then ((N8.f k x9 ((K2 x1 x13).f0) ((K2 x1 x13).f1)).bind fun t1176=>(if t1176<0 then ((P5.f k x2 ((K2 x1 x13).f0)).bind fun t1178=>(if t1178=true then (D7.l1 k x0 x1 x2 x9 (wrap64 (x13+1))) else ((some (([]:List (S106)):List (S106))).bind fun y1179=>(if y1179.length+x0.length<5864062014805 then (some ((y1179++x0),3)) else (none))))) else (D7.l1 k x0 x1 x2 x9 (wrap64 (x13+1))))) else (none)) else (if (x9.length:Int)>160 then ((some (([]:List (S106)):List (S106))).bind fun y1168=>(if y1168.length+x0.length<5864062014805 then (some ((y1168++x0),5)) else (none))) else (some (x9,0)))
end
def D7.f (k:Nat) (l0:List (S106)) (l1:List (S93)) (l2:List Int):Option ((List (S106))×Int):=(I4.f k l0).bind fun t1139=>(if t1139=true then ((H2.f k l1).bind fun t1140=>(if t1140=true then (D7.j0 k l0 l1 l2 (decide ((l2.length:Int)>20))) else (D7.j0 k l0 l1 l2 true))) else (D7.j0 k l0 l1 l2 true))
def M6.l0:Nat→List Int→Int→List (S80)→List (S84)→List (S106)→List (S110)→List (S60)→Int→Option (List Int)
 | 0,_,_,_,_,_,_,_,_=>none
 | k+1,x3,x4,x1186000,x1186001,x1186002,x1186003,x1186004,x1186005=>if x4<(x1186000.length:Int) then (if 0≤x4 then (if ((M2 x1186000 x4).f1)=1 then (M6.l0 k x3 (wrap64 (x4+1)) x1186000 x1186001 x1186002 x1186003 x1186004 x1186005) else (if x3.length<17592186044416 then (M6.l0 k (x3++[(M2 x1186000 x4).f0]) (wrap64 (x4+1)) x1186000 x1186001 x1186002 x1186003 x1186004 x1186005) else (none))) else (none)) else (some x3)
def M6.f (k:Nat) (l0_0:List (S80)) (l0_1:List (S84)) (l0_2:List (S106)) (l0_3:List (S110)) (l0_4:List (S60)) (a0_5:Int):Option (List Int):=M6.l0 k (([]:List Int)) 0 l0_0 l0_1 l0_2 l0_3 l0_4 a0_5
def Y7.f (a0:Int) (a1:Int) (a2:Int) (a3:Int):Option ((List (S93))):=some (([(⟨a0,a2,wrap64 (-a3)⟩:S93),(⟨a1,a2,a3⟩:S93)]:List (S93)))
end Go.Proofs.YtmfgajbkcnlkcaaGreat.P
namespace Go.Proofs.YtmfgajbkcnlkcaaGreat.P
open Go.RowKit Go.Proofs.YtmfgajbkcnlkcaaGreatW.PrintWords Go.Proofs.YtmfgajbkcnlkcaaGreatW.PrintLast Go.Proofs.YtmfgajbkcnlkcaaGreatW.PrintMore
attribute [local go_sem] Z7 Z5 A1h A1g W9 W8 Z6 Z4   -- for this text's walks alone
set_option linter.unusedVariables false
set_option linter.unusedSimpArgs false
mutual
def E0.l0:Nat→List (S110)→List (S110)→List (S110)→Int→Int→Option ((List (S110)))
 | 0,_,_,_,_,_=>none
 | k+1,x0,x1,x5,x6,x7=>if x6<(x0.length:Int) then (E0.j1 k x0 x1 x5 x6 x7 true) else (E0.j1 k x0 x1 x5 x6 x7 (decide (x7<(x1.length:Int))))
def E0.j1:Nat→List (S110)→List (S110)→List (S110)→Int→Int→Bool→Option ((List (S110)))
 | 0,_,_,_,_,_,_=>none
 | k+1,x0,x1,x5,x6,x7,x18=>if x18=true then (if x7=(x1.length:Int) then (if 0≤x6 then (if x6<(x0.length:Int) then (if x5.length<3518437208883 then (E0.l0 k x0 x1 (x5++[(⟨(A4 x0 x6).f0,(A4 x0 x6).f1,(A4 x0 x6).f2,(A4 x0 x6).f3,(A4 x0 x6).f4⟩:S110)]) (wrap64 (x6+1)) x7) else (none)) else (none)) else (none)) else (if x6<(x0.length:Int) then (if 0≤x6 then (if 0≤x7 then (if x7<(x1.length:Int) then ((T5.f ((A4 x0 x6).f0) ((A4 x0 x6).f1) ((A4 x0 x6).f2) ((A4 x0 x6).f3) ((A4 x0 x6).f4) ((A4 x1 x7).f0) ((A4 x1 x7).f1) ((A4 x1 x7).f2) ((A4 x1 x7).f3) ((A4 x1 x7).f4)).bind fun t1215=>(if t1215=true then (if x5.length<3518437208883 then (E0.l0 k x0 x1 (x5++[(⟨(A4 x0 x6).f0,(A4 x0 x6).f1,(A4 x0 x6).f2,(A4 x0 x6).f3,(A4 x0 x6).f4⟩:S110)]) (wrap64 (x6+1)) x7) else (none)) else (if x5.length<3518437208883 then (E0.l0 k x0 x1 (x5++[(⟨(A4 x1 x7).f0,(A4 x1 x7).f1,(A4 x1 x7).f2,(A4 x1 x7).f3,(A4 x1 x7).f4⟩:S110)]) x6 (wrap64 (x7+1))) else (none)))) else (none)) else (none)) else (none)) else (if 0≤x7 then (if x7<(x1.length:Int) then (if x5.length<3518437208883 then (E0.l0 k x0 x1 (x5++[(⟨(A4 x1 x7).f0,(A4 x1 x7).f1,(A4 x1 x7).f2,(A4 x1 x7).f3,(A4 x1 x7).f4⟩:S110)]) x6 (wrap64 (x7+1))) else (none)) else (none)) else (none)))) else (some x5)
end
def E0.f (k:Nat) (l0:List (S110)) (l1:List (S110)):Option ((List (S110))):=E0.l0 k l0 l1 (([]:List (S110))) 0 0
def I7.j0:Nat→List (S110)→Bool→Int→Int→Int→Int→Int→Option ((List (S110))×Int)
 | 0,_,_,_,_,_,_,_=>none
 | k+1,x0,x14,x1229000,x1229001,x1229002,x1229003,x1229004=>if x14=true then (some ((([]:List (S110))),1)) else ((E0.f k x0 (([(⟨x1229000,x1229001,x1229002,x1229003,x1229004⟩:S110)]:List (S110)))).bind fun t1237=>((C7.f k t1237).bind fun t1240=>(if t1240=true then (some (t1237,0)) else ((some (([]:List (S110)):List (S110))).bind fun y1241=>(if y1241.length+x0.length<3518437208883 then (some ((y1241++x0),3)) else (none))))))
def I7.f (k:Nat) (l0:List (S110)) (a1_0:Int) (a1_1:Int) (a1_2:Int) (a1_3:Int) (a1_4:Int):Option ((List (S110))×Int):=(C7.f k l0).bind fun t1229=>(if t1229=true then ((U5.f a1_0 a1_1 a1_2 a1_3 a1_4).bind fun t1230=>(I7.j0 k l0 (!t1230) a1_0 a1_1 a1_2 a1_3 a1_4)) else (I7.j0 k l0 true a1_0 a1_1 a1_2 a1_3 a1_4))
def A0e.f (a0:Int):Option (Bool):=(I5.f a0).bind fun t1414=>(some (!t1414))
def N6.bad (x:Int):Bool:=!decide (1≤x∧x≤1000)
def N6.f (l0:List Int):Option Bool:=some (!(l0.any N6.bad))
def S0.f (a0_0:Int) (a0_1:Int) (a0_2:Int):Option (Bool):=(I5.f a0_0).bind fun t1417=>(if t1417=true then ((I5.f a0_1).bind fun t1418=>(if t1418=true then ((L7.f a0_2).bind fun t1419=>(some (!t1419))) else (some true))) else (some true))
def I0.bad (x:S93):Bool:=!decide ((1≤x.f0∧x.f0≤1000)∧(1≤x.f1∧x.f1≤1000)∧-1000000000000000≤x.f2∧x.f2≤1000000000000000)
def I0.f (l0:List (S93)):Option Bool:=some (decide ((l0.length:Int)≤160)&&!(l0.any I0.bad))
mutual
def H6.l0:Nat→List (S93)→List (S93)→Int→Int→Option (Bool)
 | 0,_,_,_,_=>none
 | k+1,x0,x11,x12,x13=>if x13<x12 then (if 0≤x13 then (if x13<(x11.length:Int) then (H6.l1 k x0 0 x11 x12 x13 x0 (x0.length:Int) 0 ((K2 x11 x13).f0) ((K2 x11 x13).f1) ((K2 x11 x13).f2)) else (none)) else (none)) else (some true)
def H6.l1:Nat→List (S93)→Int→List (S93)→Int→Int→List (S93)→Int→Int→Int→Int→Int→Option (Bool)
 | 0,_,_,_,_,_,_,_,_,_,_,_=>none
 | k+1,x0,x5,x11,x12,x13,x17,x18,x19,x1423000,x1423001,x1423002=>if x19<x18 then (if 0≤x19 then (if x19<(x17.length:Int) then (if ((K2 x17 x19).f1)=x1423001 then (H6.l1 k x0 (wrap64 (x5+((K2 x17 x19).f2))) x11 x12 x13 x17 x18 (wrap64 (x19+1)) x1423000 x1423001 x1423002) else (H6.l1 k x0 x5 x11 x12 x13 x17 x18 (wrap64 (x19+1)) x1423000 x1423001 x1423002)) else (none)) else (none)) else (if x5=0 then (H6.l0 k x0 x11 x12 (wrap64 (x13+1))) else (some false))
end
def H6.f (k:Nat) (l0:List (S93)):Option (Bool):=(I0.f l0).bind fun t1420=>(if t1420=true then (H6.l0 k l0 l0 (l0.length:Int) 0) else (some false))
def O0.f (l0:List (S106)) (a1 a2:Int):Option (List (S106)):=if 0≤a1∧a1<a2∧a2≤(l0.length:Int)∧l0.length<1048577 then some (l0.take a1.toNat++l0.drop a2.toNat) else none
def F7.f (l0:List (S106)) (a1:Int) (l2:List (S106)):Option (List (S106)):=if 0≤a1∧a1≤(l0.length:Int)∧l2.length=1∧l0.length<1048577 then some (l0.take a1.toNat++l2++l0.drop a1.toNat) else none
def T7.f (k:Nat) (l0:List (S106)) (a1:Int) (a2:Int) (a3:Int):Option ((List (S106))):=(O2.f l0).bind fun t1425=>((M0.f k l0 a1 a2).bind fun bt1428=>(if bt1428.2=true then ((O0.f t1425 bt1428.1 (wrap64 (bt1428.1+1))).bind fun t1430=>(if a3=0 then (some t1430) else ((F7.f t1430 bt1428.1 (([(⟨a1,a2,a3⟩:S106)]:List (S106)))).bind fun t1436=>(some t1436)))) else (if a3=0 then (some t1425) else ((F7.f t1425 bt1428.1 (([(⟨a1,a2,a3⟩:S106)]:List (S106)))).bind fun t1442=>(some t1442)))))
def G9.l0:Nat→List Int→Int→Int→Int→Option (Int)
 | 0,_,_,_,_=>none
 | k+1,x0,x1,x7,x8=>if x8<x7 then (if 0≤x8 then (if x8<(x0.length:Int) then (if x1=(rd x0 x8) then (some x8) else (G9.l0 k x0 x1 x7 (wrap64 (x8+1)))) else (none)) else (none)) else (some (-1))
def G9.f (k:Nat) (l0:List Int) (a1:Int):Option (Int):=G9.l0 k l0 a1 (l0.length:Int) 0
def O1.f (k:Nat) (l0:List Int) (a1:Int):Option (Bool):=(G9.f k l0 a1).bind fun t1446=>(some (decide (t1446≥0)))
mutual
def D9.j0:Nat→List (S106)→List (S93)→List Int→Bool→Option ((List (S106))×Int)
 | 0,_,_,_,_=>none
 | k+1,x0,x1,x2,x27=>if x27=true then (some (([]:List (S106)),1)) else ((O2.f x0).bind fun t1449=>((H6.f k x1).bind fun t1452=>(if t1452=true then ((O2.f x0).bind fun t1453=>(D9.l0 k x1 x2 t1449 t1453 x1 (x1.length:Int) 0)) else (some (t1449,2)))))
def D9.l0:Nat→List (S93)→List Int→List (S106)→List (S106)→List (S93)→Int→Int→Option ((List (S106))×Int)
 | 0,_,_,_,_,_,_,_=>none
 | k+1,x1,x2,x8,x9,x36,x37,x38=>if x38<x37 then (if 0≤x38 then (if x38<(x36.length:Int) then ((R7.f k x9 ((K2 x36 x38).f0) ((K2 x36 x38).f1)).bind fun t1458=>((L7.f (wrap64 (t1458+((K2 x36 x38).f2)))).bind fun t1459=>(if t1459=true then ((T7.f k x9 ((K2 x36 x38).f0) ((K2 x36 x38).f1) (wrap64 (t1458+((K2 x36 x38).f2)))).bind fun t1460=>(D9.l0 k x1 x2 x8 t1460 x36 x37 (wrap64 (x38+1)))) else (some (x8,4))))) else (none)) else (none)) else (D9.l1 k x2 x8 x9 x1 (x1.length:Int) 0)
def D9.l1:Nat→List Int→List (S106)→List (S106)→List (S93)→Int→Int→Option ((List (S106))×Int)
 | 0,_,_,_,_,_,_=>none
 | k+1,x2,x8,x9,x63,x64,x65=>if x65<x64 then (if 0≤x65 then (if x65<(x63.length:Int) then ((O1.f k x2 ((K2 x63 x65).f0)).bind fun t1465=>(if t1465=true then (D9.l1 k x2 x8 x9 x63 x64 (wrap64 (x65+1))) else ((R7.f k x9 ((K2 x63 x65).f0) ((K2 x63 x65).f1)).bind fun t1466=>(if t1466<0 then (some (x8,3)) else (D9.l1 k x2 x8 x9 x63 x64 (wrap64 (x65+1))))))) else (none)) else (none)) else (if (x9.length:Int)>160 then (some (x8,5)) else (some (x9,0)))
end
def D9.f (k:Nat) (l0:List (S106)) (l1:List (S93)) (l2:List Int):Option ((List (S106))×Int):=(G5.f k l0).bind fun t1447=>(if t1447=true then ((I0.f l1).bind fun t1448=>(if t1448=true then (D9.j0 k l0 l1 l2 (decide ((l2.length:Int)>20))) else (D9.j0 k l0 l1 l2 true))) else (D9.j0 k l0 l1 l2 true))
def R8.f (a0:Int):Option (Int):=if a0=0 then (some 0) else (if a0=3 then (some 5) else (if a0=4 then (some 8) else (if a0=5 then (some 7) else (some 1))))
def G7.f (l0:List (S110)) (a1:Int) (l2:List (S110)):Option (List (S110)):=if 0≤a1∧a1≤(l0.length:Int)∧l2.length=1∧l0.length<1048577 then some (l0.take a1.toNat++l2++l0.drop a1.toNat) else none
mutual
def D1.j0:Nat→List (S110)→Bool→Int→Int→Int→Int→Int→Option ((List (S110))×Int)
 | 0,_,_,_,_,_,_,_=>none
 | k+1,x0,x16,x1480000,x1480001,x1480002,x1480003,x1480004=>if x16=true then (some (([]:List (S110)),1)) else (D1.l0 k x0 0 x1480000 x1480001 x1480002 x1480003 x1480004)
def D1.j2:Nat→List (S110)→Int→Int→Int→Int→Int→Int→Option ((List (S110))×Int)
 | 0,_,_,_,_,_,_,_=>none
 | k+1,x0,x6,x1480000,x1480001,x1480002,x1480003,x1480004=>(J1.f x0).bind fun t1487=>((G7.f t1487 x6 (([(⟨x1480000,x1480001,x1480002,x1480003,x1480004⟩:S110)]:List (S110)))).bind fun t1493=>((A9.f t1493).bind fun t1496=>(if t1496=true then (some (t1493,0)) else ((J1.f x0).bind fun t1497=>(some (t1497,3))))))
def D1.l0:Nat→List (S110)→Int→Int→Int→Int→Int→Int→Option ((List (S110))×Int)
 | 0,_,_,_,_,_,_,_=>none
 | k+1,x0,x6,x1480000,x1480001,x1480002,x1480003,x1480004=>if x6<(x0.length:Int) then (if 0≤x6 then ((L3.f k ((A4 x0 x6).f0) ((A4 x0 x6).f1) ((A4 x0 x6).f2) ((A4 x0 x6).f3) ((A4 x0 x6).f4) x1480000 x1480001 x1480002 x1480003 x1480004).bind fun t1486=>(if t1486<0 then (D1.l0 k x0 (wrap64 (x6+1)) x1480000 x1480001 x1480002 x1480003 x1480004) else (D1.j2 k x0 x6 x1480000 x1480001 x1480002 x1480003 x1480004))) else (none)) else (D1.j2 k x0 x6 x1480000 x1480001 x1480002 x1480003 x1480004)
end
def D1.f (k:Nat) (l0:List (S110)) (a1_0:Int) (a1_1:Int) (a1_2:Int) (a1_3:Int) (a1_4:Int):Option ((List (S110))×Int):=(A9.f l0).bind fun t1480=>(if t1480=true then ((A9.f (([(⟨a1_0,a1_1,a1_2,a1_3,a1_4⟩:S110)]:List (S110)))).bind fun t1484=>(D1.j0 k l0 (!t1484) a1_0 a1_1 a1_2 a1_3 a1_4)) else (D1.j0 k l0 true a1_0 a1_1 a1_2 a1_3 a1_4))
mutual
def F2.j0:Nat→Int→Int→Int→Bool→Option (Int×Int×Bool)
 | 0,_,_,_,_=>none
 | k+1,x0,x1,x2,x24=>if x24=true then (some (0,0,false)) else (F2.l0 k x0 x1 x2 0 0 50)
def F2.l0:Nat→Int→Int→Int→Int→Int→Int→Option (Int×Int×Bool)
 | 0,_,_,_,_,_,_=>none
 | k+1,x0,x1,x2,x9,x10,x11=>if x11≥0 then (if (wrap64 (2*x10))≥x2 then (F2.j2 k x0 x1 x2 (wrap64 ((wrap64 (2*x9))+1)) (wrap64 ((wrap64 (2*x10))-x2)) x11) else (F2.j2 k x0 x1 x2 (wrap64 (2*x9)) (wrap64 (2*x10)) x11)) else (some (x9,x10,true))
def F2.j2:Nat→Int→Int→Int→Int→Int→Int→Option (Int×Int×Bool)
 | 0,_,_,_,_,_,_=>none
 | k+1,x0,x1,x2,x9,x10,x11=>if 0≤x11 then (if (Go.bits .and .i64 (shr .i64 x0 x11) 1)=1 then (if x2=0 then (none) else (if (wrap64 (x10+(Int.tmod x1 x2)))≥x2 then (if (wrap64 ((wrap64 (x9+(wrap64 (Int.tdiv x1 x2))))+1))>1000000000000000 then (some (0,0,false)) else (F2.l0 k x0 x1 x2 (wrap64 ((wrap64 (x9+(wrap64 (Int.tdiv x1 x2))))+1)) (wrap64 ((wrap64 (x10+(Int.tmod x1 x2)))-x2)) (wrap64 (x11-1)))) else (if (wrap64 (x9+(wrap64 (Int.tdiv x1 x2))))>1000000000000000 then (some (0,0,false)) else (F2.l0 k x0 x1 x2 (wrap64 (x9+(wrap64 (Int.tdiv x1 x2)))) (wrap64 (x10+(Int.tmod x1 x2))) (wrap64 (x11-1)))))) else (if x9>1000000000000000 then (some (0,0,false)) else (F2.l0 k x0 x1 x2 x9 x10 (wrap64 (x11-1))))) else (none)
end
def F2.f (k:Nat) (a0:Int) (a1:Int) (a2:Int):Option (Int×Int×Bool):=(J9.f a0 0).bind fun t1583=>(if t1583=true then ((J9.f a1 0).bind fun t1584=>(if t1584=true then ((J9.f a2 1).bind fun t1585=>(F2.j0 k a0 a1 a2 (!t1585))) else (F2.j0 k a0 a1 a2 true))) else (F2.j0 k a0 a1 a2 true))
def O9.l0:Nat→List (S110)→Int→Int→Option (Int)
 | 0,_,_,_=>none
 | k+1,x0,x3,x4=>if x4<(x0.length:Int) then (if 0≤x4 then (O9.l0 k x0 (wrap64 (x3+((A4 x0 x4).f4))) (wrap64 (x4+1))) else (none)) else (some x3)
def O9.f (k:Nat) (l0:List (S110)):Option (Int):=O9.l0 k l0 0 0
def X9.f (k:Nat) (l0:List (S110)) (a1:Int):Option ((List (S110))×Int):=(N7.f k l0).bind fun t1587=>((O9.f k l0).bind fun t1588=>((F2.f k t1588 a1 t1587).bind fun bt1589=>(if t1587=a1 then (some ((([]:List (S110))),bt1589.1)) else (if 0<(l0.length:Int) then (some ((([(⟨(A4 l0 0).f0,(A4 l0 0).f1,(A4 l0 0).f2,wrap64 (t1587-a1),wrap64 (t1588-bt1589.1)⟩:S110)]:List (S110))),bt1589.1)) else (none)))))
def A0o.f (a0:Int) (a1:Int):Option (Int):=if a0<a1 then (some a0) else (some a1)
end Go.Proofs.YtmfgajbkcnlkcaaGreat.P
namespace Go.Proofs.YtmfgajbkcnlkcaaGreat.P
open Go.RowKit Go.Proofs.YtmfgajbkcnlkcaaGreatW.PrintWords Go.Proofs.YtmfgajbkcnlkcaaGreatW.PrintLast Go.Proofs.YtmfgajbkcnlkcaaGreatW.PrintMore
attribute [local go_sem] Z7 Z5 A1h A1g W9 W8 Z6 Z4   -- for this text's walks alone
set_option linter.unusedVariables false
set_option linter.unusedSimpArgs false
mutual
def D2.j0:Nat→List (S110)→Int→Int→Int→Int→Bool→Option ((List (S110))×Int×Int)
 | 0,_,_,_,_,_,_=>none
 | k+1,x0,x1,x2,x3,x4,x36=>if x36=true then (some ((([]:List (S110))),0,1)) else ((I6.f k x0 x1 x2).bind fun bt1606=>((N7.f k bt1606.1).bind fun t1612=>(if t1612<x3 then ((some (([]:List (S110)):List (S110))).bind fun y1613=>(if y1613.length+x0.length<3518437208883 then (some ((y1613++x0),0,2)) else (none))) else (if x4=3 then ((X9.f k bt1606.1 x3).bind fun bt1619=>((E0.f k bt1606.2 bt1619.1).bind fun t1623=>(some (t1623,bt1619.2,0)))) else (D2.l0 k x3 x4 bt1606.1 bt1606.2 0)))))
def D2.l0:Nat→Int→Int→List (S110)→List (S110)→Int→Option ((List (S110))×Int×Int)
 | 0,_,_,_,_,_=>none
 | k+1,x3,x4,x13,x14,x17=>if x3>0 then (if x4=2 then (D2.j2 k x3 x4 x13 x14 x17 (wrap64 ((x13.length:Int)-1))) else (D2.j2 k x3 x4 x13 x14 x17 0)) else ((E0.f k x14 x13).bind fun t1626=>(some (t1626,x17,0)))
def D2.j2:Nat→Int→Int→List (S110)→List (S110)→Int→Int→Option ((List (S110))×Int×Int)
 | 0,_,_,_,_,_,_=>none
 | k+1,x3,x4,x13,x14,x17,x18=>if 0≤x18 then (if x18<(x13.length:Int) then ((A0o.f ((A4 x13 x18).f3) x3).bind fun t1631=>((F2.f k ((A4 x13 x18).f4) t1631 ((A4 x13 x18).f3)).bind fun bt1632=>((some (x13.set (x18:Int).toNat (⟨(A4 x13 x18).f0,(A4 x13 x18).f1,(A4 x13 x18).f2,wrap64 (((A4 x13 x18).f3)-t1631),(A4 x13 x18).f4⟩:S110):List (S110))).bind fun y1635=>((some (y1635.set (x18:Int).toNat (⟨(A4 y1635 x18).f0,(A4 y1635 x18).f1,(A4 y1635 x18).f2,(A4 y1635 x18).f3,wrap64 (((A4 x13 x18).f4)-bt1632.1)⟩:S110):List (S110))).bind fun y1636=>(if ((A4 y1636 x18).f3)=0 then ((some (([]:List (S110)):List (S110))).bind fun y1638=>(if x18≤(x13.length:Int) then ((some (y1636.take (x18:Int).toNat:List (S110))).bind fun y1641=>(if y1638.length+y1641.length<3518437208883 then ((some (y1638++y1641:List (S110))).bind fun y1645=>(if 0≤(wrap64 (x18+1)) then (if (wrap64 (x18+1))≤(x13.length:Int) then ((some (y1636.drop ((wrap64 (x18+1)):Int).toNat:List (S110))).bind fun y1648=>(if y1645.length+y1648.length<3518437208883 then (D2.l0 k (wrap64 (x3-t1631)) x4 (y1645++y1648) x14 (wrap64 (x17+bt1632.1))) else (none))) else (none)) else (none))) else (none))) else (none))) else (D2.l0 k (wrap64 (x3-t1631)) x4 y1636 x14 (wrap64 (x17+bt1632.1)))))))) else (none)) else (none)
end
def D2.f (k:Nat) (l0:List (S110)) (a1:Int) (a2:Int) (a3:Int) (a4:Int):Option ((List (S110))×Int×Int):=(C7.f k l0).bind fun t1600=>(if t1600=true then ((J9.f a3 1).bind fun t1601=>(if t1601=true then ((N9.f a4 1 3).bind fun t1602=>(D2.j0 k l0 a1 a2 a3 a4 (!t1602))) else (D2.j0 k l0 a1 a2 a3 a4 true))) else (D2.j0 k l0 a1 a2 a3 a4 true))
def A0s.f (a0:Int) (a1:Int):Option (Int×Int):=some (IntKind.u64.wrap ((IntKind.u64.wrap ((IntKind.u64.wrap ((a0/4294967296)*(a1/4294967296)))+((IntKind.u64.wrap ((IntKind.u64.wrap ((a0/4294967296)*(Go.bits .and .u64 a1 4294967295)))+((IntKind.u64.wrap ((Go.bits .and .u64 a0 4294967295)*(Go.bits .and .u64 a1 4294967295)))/4294967296)))/4294967296)))+((IntKind.u64.wrap ((Go.bits .and .u64 (IntKind.u64.wrap ((IntKind.u64.wrap ((a0/4294967296)*(Go.bits .and .u64 a1 4294967295)))+((IntKind.u64.wrap ((Go.bits .and .u64 a0 4294967295)*(Go.bits .and .u64 a1 4294967295)))/4294967296))) 4294967295)+(IntKind.u64.wrap ((Go.bits .and .u64 a0 4294967295)*(a1/4294967296)))))/4294967296)),IntKind.u64.wrap (a0*a1))
def P9.j0:Nat→Int→Int→Option (Int)
 | 0,_,_=>none
 | k+1,x0,x2=>if x0≥65536 then (if (x0/65536)≥256 then (if 0≤(((x0/65536)/256) % 256) then (if (((x0/65536)/256) % 256)<256 then (some (wrap64 ((wrap64 ((wrap64 (x2+16))+8))+(wrap64 (bt (⟨#[0,1,2,2,3,3,3,3,4,4,4,4,4,4,4,4,5,5,5,5,5,5,5,5,5,5,5,5,5,5,5,5,6,6,6,6,6,6,6,6,6,6,6,6,6,6,6,6,6,6,6,6,6,6,6,6,6,6,6,6,6,6,6,6,7,7,7,7,7,7,7,7,7,7,7,7,7,7,7,7,7,7,7,7,7,7,7,7,7,7,7,7,7,7,7,7,7,7,7,7,7,7,7,7,7,7,7,7,7,7,7,7,7,7,7,7,7,7,7,7,7,7,7,7,7,7,7,7,8,8,8,8,8,8,8,8,8,8,8,8,8,8,8,8,8,8,8,8,8,8,8,8,8,8,8,8,8,8,8,8,8,8,8,8,8,8,8,8,8,8,8,8,8,8,8,8,8,8,8,8,8,8,8,8,8,8,8,8,8,8,8,8,8,8,8,8,8,8,8,8,8,8,8,8,8,8,8,8,8,8,8,8,8,8,8,8,8,8,8,8,8,8,8,8,8,8,8,8,8,8,8,8,8,8,8,8,8,8,8,8,8,8,8,8,8,8,8,8,8,8,8,8,8,8,8,8]⟩:ByteArray) (((x0/65536)/256) % 256)))))) else (none)) else (none)) else (if 0≤((x0/65536) % 256) then (if ((x0/65536) % 256)<256 then (some (wrap64 ((wrap64 (x2+16))+(wrap64 (bt (⟨#[0,1,2,2,3,3,3,3,4,4,4,4,4,4,4,4,5,5,5,5,5,5,5,5,5,5,5,5,5,5,5,5,6,6,6,6,6,6,6,6,6,6,6,6,6,6,6,6,6,6,6,6,6,6,6,6,6,6,6,6,6,6,6,6,7,7,7,7,7,7,7,7,7,7,7,7,7,7,7,7,7,7,7,7,7,7,7,7,7,7,7,7,7,7,7,7,7,7,7,7,7,7,7,7,7,7,7,7,7,7,7,7,7,7,7,7,7,7,7,7,7,7,7,7,7,7,7,7,8,8,8,8,8,8,8,8,8,8,8,8,8,8,8,8,8,8,8,8,8,8,8,8,8,8,8,8,8,8,8,8,8,8,8,8,8,8,8,8,8,8,8,8,8,8,8,8,8,8,8,8,8,8,8,8,8,8,8,8,8,8,8,8,8,8,8,8,8,8,8,8,8,8,8,8,8,8,8,8,8,8,8,8,8,8,8,8,8,8,8,8,8,8,8,8,8,8,8,8,8,8,8,8,8,8,8,8,8,8,8,8,8,8,8,8,8,8,8,8,8,8,8,8,8,8,8,8]⟩:ByteArray) ((x0/65536) % 256)))))) else (none)) else (none))) else (if x0≥256 then (if 0≤((x0/256) % 256) then (if ((x0/256) % 256)<256 then (some (wrap64 ((wrap64 (x2+8))+(wrap64 (bt (⟨#[0,1,2,2,3,3,3,3,4,4,4,4,4,4,4,4,5,5,5,5,5,5,5,5,5,5,5,5,5,5,5,5,6,6,6,6,6,6,6,6,6,6,6,6,6,6,6,6,6,6,6,6,6,6,6,6,6,6,6,6,6,6,6,6,7,7,7,7,7,7,7,7,7,7,7,7,7,7,7,7,7,7,7,7,7,7,7,7,7,7,7,7,7,7,7,7,7,7,7,7,7,7,7,7,7,7,7,7,7,7,7,7,7,7,7,7,7,7,7,7,7,7,7,7,7,7,7,7,8,8,8,8,8,8,8,8,8,8,8,8,8,8,8,8,8,8,8,8,8,8,8,8,8,8,8,8,8,8,8,8,8,8,8,8,8,8,8,8,8,8,8,8,8,8,8,8,8,8,8,8,8,8,8,8,8,8,8,8,8,8,8,8,8,8,8,8,8,8,8,8,8,8,8,8,8,8,8,8,8,8,8,8,8,8,8,8,8,8,8,8,8,8,8,8,8,8,8,8,8,8,8,8,8,8,8,8,8,8,8,8,8,8,8,8,8,8,8,8,8,8,8,8,8,8,8,8]⟩:ByteArray) ((x0/256) % 256)))))) else (none)) else (none)) else (if 0≤((x0) % 256) then (if ((x0) % 256)<256 then (some (wrap64 (x2+(wrap64 (bt (⟨#[0,1,2,2,3,3,3,3,4,4,4,4,4,4,4,4,5,5,5,5,5,5,5,5,5,5,5,5,5,5,5,5,6,6,6,6,6,6,6,6,6,6,6,6,6,6,6,6,6,6,6,6,6,6,6,6,6,6,6,6,6,6,6,6,7,7,7,7,7,7,7,7,7,7,7,7,7,7,7,7,7,7,7,7,7,7,7,7,7,7,7,7,7,7,7,7,7,7,7,7,7,7,7,7,7,7,7,7,7,7,7,7,7,7,7,7,7,7,7,7,7,7,7,7,7,7,7,7,8,8,8,8,8,8,8,8,8,8,8,8,8,8,8,8,8,8,8,8,8,8,8,8,8,8,8,8,8,8,8,8,8,8,8,8,8,8,8,8,8,8,8,8,8,8,8,8,8,8,8,8,8,8,8,8,8,8,8,8,8,8,8,8,8,8,8,8,8,8,8,8,8,8,8,8,8,8,8,8,8,8,8,8,8,8,8,8,8,8,8,8,8,8,8,8,8,8,8,8,8,8,8,8,8,8,8,8,8,8,8,8,8,8,8,8,8,8,8,8,8,8,8,8,8,8,8,8]⟩:ByteArray) ((x0) % 256)))))) else (none)) else (none)))
def P9.f (k:Nat) (a0:Int):Option (Int):=if a0≥4294967296 then (P9.j0 k (a0/4294967296) 32) else (P9.j0 k a0 0)
def Q4.f (k:Nat) (a0:Int):Option (Int):=(P9.f k a0).bind fun t1860=>(some (wrap64 (64-t1860)))
mutual
def F0.j2:Nat→Int→Int→Int→Int→Int→Int→Int→Int→Option (Int×Int)
 | 0,_,_,_,_,_,_,_,_=>none
 | k+1,x2,x8,x9,x10,x11,x13,x14,x15=>if x9=0 then (none) else (F0.l1 k x2 x8 x9 x10 x14 x15 (IntKind.u64.wrap ((IntKind.u64.wrap ((IntKind.u64.wrap ((IntKind.u64.wrap (x11*4294967296))+x13))-(IntKind.u64.wrap (x15*x2))))-(IntKind.u64.wrap ((IntKind.u64.wrap (Int.tdiv (IntKind.u64.wrap ((IntKind.u64.wrap ((IntKind.u64.wrap (x11*4294967296))+x13))-(IntKind.u64.wrap (x15*x2)))) x9))*x9)))) (IntKind.u64.wrap ((IntKind.u64.wrap ((IntKind.u64.wrap (x11*4294967296))+x13))-(IntKind.u64.wrap (x15*x2)))) (IntKind.u64.wrap (Int.tdiv (IntKind.u64.wrap ((IntKind.u64.wrap ((IntKind.u64.wrap (x11*4294967296))+x13))-(IntKind.u64.wrap (x15*x2)))) x9)))
def F0.l1:Nat→Int→Int→Int→Int→Int→Int→Int→Int→Int→Option (Int×Int)
 | 0,_,_,_,_,_,_,_,_,_=>none
 | k+1,x2,x8,x9,x10,x14,x15,x16,x17,x18=>if x18≥4294967296 then (F0.j4 k x2 x8 x9 x10 x14 x15 x16 x17 x18 true) else (F0.j4 k x2 x8 x9 x10 x14 x15 x16 x17 x18 (decide ((IntKind.u64.wrap (x18*x10))>(IntKind.u64.wrap ((IntKind.u64.wrap (4294967296*x16))+x14)))))
def F0.j4:Nat→Int→Int→Int→Int→Int→Int→Int→Int→Int→Bool→Option (Int×Int)
 | 0,_,_,_,_,_,_,_,_,_,_=>none
 | k+1,x2,x8,x9,x10,x14,x15,x16,x17,x18,x113=>if x113=true then (if (IntKind.u64.wrap (x16+x9))≥4294967296 then (if 0≤x8 then (some (IntKind.u64.wrap ((IntKind.u64.wrap (x15*4294967296))+(IntKind.u64.wrap (x18-1))),shr .u64 (IntKind.u64.wrap ((IntKind.u64.wrap ((IntKind.u64.wrap (x17*4294967296))+x14))-(IntKind.u64.wrap ((IntKind.u64.wrap (x18-1))*x2)))) x8)) else (none)) else (F0.l1 k x2 x8 x9 x10 x14 x15 (IntKind.u64.wrap (x16+x9)) x17 (IntKind.u64.wrap (x18-1)))) else (if 0≤x8 then (some (IntKind.u64.wrap ((IntKind.u64.wrap (x15*4294967296))+x18),shr .u64 (IntKind.u64.wrap ((IntKind.u64.wrap ((IntKind.u64.wrap (x17*4294967296))+x14))-(IntKind.u64.wrap (x18*x2)))) x8)) else (none))
def F0.l0:Nat→Int→Int→Int→Int→Int→Int→Int→Int→Int→Option (Int×Int)
 | 0,_,_,_,_,_,_,_,_,_=>none
 | k+1,x2,x8,x9,x10,x11,x13,x14,x15,x16=>if x15≥4294967296 then (F0.j1 k x2 x8 x9 x10 x11 x13 x14 x15 x16 true) else (F0.j1 k x2 x8 x9 x10 x11 x13 x14 x15 x16 (decide ((IntKind.u64.wrap (x15*x10))>(IntKind.u64.wrap ((IntKind.u64.wrap (4294967296*x16))+x13)))))
def F0.j1:Nat→Int→Int→Int→Int→Int→Int→Int→Int→Int→Bool→Option (Int×Int)
 | 0,_,_,_,_,_,_,_,_,_,_=>none
 | k+1,x2,x8,x9,x10,x11,x13,x14,x15,x16,x78=>if x78=true then (if (IntKind.u64.wrap (x16+x9))≥4294967296 then (F0.j2 k x2 x8 x9 x10 x11 x13 x14 (IntKind.u64.wrap (x15-1))) else (F0.l0 k x2 x8 x9 x10 x11 x13 x14 (IntKind.u64.wrap (x15-1)) (IntKind.u64.wrap (x16+x9)))) else (F0.j2 k x2 x8 x9 x10 x11 x13 x14 x15)
end
def F0.f (k:Nat) (a0:Int) (a1:Int) (a2:Int):Option (Int×Int):=if a2=0 then (none) else (if a2≤a0 then (none) else (if a0=0 then (some (IntKind.u64.wrap (Int.tdiv a1 a2),Int.tmod a1 a2)) else ((Q4.f k a2).bind fun t1861=>(if 0≤(IntKind.u64.wrap (t1861)) then (if 0≤(IntKind.u64.wrap (64-(IntKind.u64.wrap (t1861)))) then (if ((shl .u64 a2 (IntKind.u64.wrap (t1861)))/4294967296)=0 then (none) else (F0.l0 k (shl .u64 a2 (IntKind.u64.wrap (t1861))) (IntKind.u64.wrap (t1861)) ((shl .u64 a2 (IntKind.u64.wrap (t1861)))/4294967296) (Go.bits .and .u64 (shl .u64 a2 (IntKind.u64.wrap (t1861))) 4294967295) (Go.bits .or .u64 (shl .u64 a0 (IntKind.u64.wrap (t1861))) (shr .u64 a1 (IntKind.u64.wrap (64-(IntKind.u64.wrap (t1861)))))) ((shl .u64 a1 (IntKind.u64.wrap (t1861)))/4294967296) (Go.bits .and .u64 (shl .u64 a1 (IntKind.u64.wrap (t1861))) 4294967295) (IntKind.u64.wrap (Int.tdiv (Go.bits .or .u64 (shl .u64 a0 (IntKind.u64.wrap (t1861))) (shr .u64 a1 (IntKind.u64.wrap (64-(IntKind.u64.wrap (t1861)))))) ((shl .u64 a2 (IntKind.u64.wrap (t1861)))/4294967296))) (IntKind.u64.wrap ((Go.bits .or .u64 (shl .u64 a0 (IntKind.u64.wrap (t1861))) (shr .u64 a1 (IntKind.u64.wrap (64-(IntKind.u64.wrap (t1861))))))-(IntKind.u64.wrap ((IntKind.u64.wrap (Int.tdiv (Go.bits .or .u64 (shl .u64 a0 (IntKind.u64.wrap (t1861))) (shr .u64 a1 (IntKind.u64.wrap (64-(IntKind.u64.wrap (t1861)))))) ((shl .u64 a2 (IntKind.u64.wrap (t1861)))/4294967296)))*((shl .u64 a2 (IntKind.u64.wrap (t1861)))/4294967296))))))) else (none)) else (none)))))
def L6.j0:Nat→Int→Int→Int→Bool→Option (Int×Int×Bool)
 | 0,_,_,_,_=>none
 | k+1,x0,x1,x2,x25=>if x25=true then (some (0,0,false)) else ((A0s.f (IntKind.u64.wrap (x0)) (IntKind.u64.wrap (x1))).bind fun bt1865=>(if bt1865.1≥(IntKind.u64.wrap (x2)) then (some (0,0,false)) else ((F0.f k bt1865.1 bt1865.2 (IntKind.u64.wrap (x2))).bind fun bt1867=>(if bt1867.1>1000000000000000 then (some (0,0,false)) else (some (wrap64 (bt1867.1),wrap64 (bt1867.2),true))))))
def L6.f (k:Nat) (a0:Int) (a1:Int) (a2:Int):Option (Int×Int×Bool):=(J7.f a0 0 1000000000000000).bind fun t1862=>(if t1862=true then ((J7.f a1 0 1000000000000000).bind fun t1863=>(if t1863=true then ((J7.f a2 1 1000000000000000).bind fun t1864=>(L6.j0 k a0 a1 a2 (!t1864))) else (L6.j0 k a0 a1 a2 true))) else (L6.j0 k a0 a1 a2 true))
def H1.l0:Nat→Int→Int→List (S110)→List (S110)→Int→Int→Option ((List (S110))×Int)
 | 0,_,_,_,_,_,_=>none
 | k+1,x1,x6,x7,x15,x16,x17=>if x17<x16 then (if 0≤x17 then (if x17<(x15.length:Int) then ((L6.f k ((A4 x15 x17).f4) (mn x1 ((A4 x15 x17).f3)) ((A4 x15 x17).f3)).bind fun bt1874=>(if (mn x1 ((A4 x15 x17).f3))<((A4 x15 x17).f3) then (if x7.length<3518437208883 then (H1.l0 k (wrap64 (x1-(mn x1 ((A4 x15 x17).f3)))) (wrap64 (x6+bt1874.1)) (x7++[(⟨(A4 x15 x17).f0,(A4 x15 x17).f1,(A4 x15 x17).f2,wrap64 (((A4 x15 x17).f3)-(mn x1 ((A4 x15 x17).f3))),wrap64 (((A4 x15 x17).f4)-bt1874.1)⟩:S110)]) x15 x16 (wrap64 (x17+1))) else (none)) else (H1.l0 k (wrap64 (x1-(mn x1 ((A4 x15 x17).f3)))) (wrap64 (x6+bt1874.1)) x7 x15 x16 (wrap64 (x17+1))))) else (none)) else (none)) else (some (x7,x6))
def H1.f (k:Nat) (l0:List (S110)) (a1:Int):Option ((List (S110))×Int):=H1.l0 k a1 0 (([]:List (S110))) l0 (l0.length:Int) 0
def L5.f (l0:List (S110)):Option (List (S110)):=if l0.length<1048577 then some l0.reverse else none
instance L5.inh:Inhabited (S110):=⟨z110⟩
def U6.f (k:Nat) (l0:List (S110)) (a1:Int):Option ((List (S110))×Int):=(H3.f k l0).bind fun bt1880=>((L6.f k bt1880.2 a1 bt1880.1).bind fun bt1882=>(if bt1880.1=a1 then (some (([]:List (S110)),bt1882.1)) else (if 0<(l0.length:Int) then (some ((([(⟨(A4 l0 0).f0,(A4 l0 0).f1,(A4 l0 0).f2,wrap64 (bt1880.1-a1),wrap64 (bt1880.2-bt1882.1)⟩:S110)]:List (S110))),bt1882.1)) else (none))))
instance:Inhabited (S110):=⟨z110⟩
def C5.rest (l:List (S110)) (a b:Int):List (S110):=l.filter fun x=>!decide (x.f0=a∧x.f1=b)
def C5.srt (l:List (S110)):List (S110):=l.mergeSort fun x y=>!decide (A9.cmp y x<0)
def C5.uniq (l:List (S110)):Prop:=∀ x∈l,∀ y∈l,x.f0=y.f0∧x.f1=y.f1∧x.f2=y.f2→x.f3=y.f3∧x.f4=y.f4
instance (l:List (S110)):Decidable (C5.uniq l):=by unfold C5.uniq;exact inferInstance
def C5.f (l0:List (S110)) (a1 a2:Int) (l3:List (S110)):Option (List (S110)):=if l0.length<1048577∧l3.length<1048577∧C5.uniq (C5.rest l0 a1 a2++l3) then some (C5.srt (C5.rest l0 a1 a2++l3)) else none
def L8.j0:Nat→List (S110)→Int→Int→Int→Int→Bool→Option ((List (S110))×Int×Int)
 | 0,_,_,_,_,_,_=>none
 | k+1,x0,x1,x2,x3,x4,x30=>if x30=true then (some (([]:List (S110)),0,1)) else ((F4.f x0 x1 x2).bind fun t1893=>((H3.f k t1893).bind fun bt1896=>(if bt1896.1<x3 then ((J1.f x0).bind fun t1898=>(some (t1898,0,2))) else (if x4=1 then ((H1.f k t1893 x3).bind fun bt1901=>((C5.f x0 x1 x2 bt1901.1).bind fun t1905=>(some (t1905,bt1901.2,0)))) else (if x4=2 then ((L5.f t1893).bind fun t1908=>((H1.f k t1908 x3).bind fun bt1909=>((C5.f x0 x1 x2 bt1909.1).bind fun t1913=>(some (t1913,bt1909.2,0))))) else (if x4=3 then ((U6.f k t1893 x3).bind fun bt1916=>((C5.f x0 x1 x2 bt1916.1).bind fun t1920=>(some (t1920,bt1916.2,0)))) else ((C5.f x0 x1 x2 ([]:List (S110))).bind fun t1923=>(some (t1923,0,0)))))))))
def L8.f (k:Nat) (l0:List (S110)) (a1:Int) (a2:Int) (a3:Int) (a4:Int):Option ((List (S110))×Int×Int):=(A9.f l0).bind fun t1890=>(if t1890=true then ((J7.f a3 1 1000000000000000).bind fun t1891=>(if t1891=true then ((J7.f a4 1 3).bind fun t1892=>(L8.j0 k l0 a1 a2 a3 a4 (!t1892))) else (L8.j0 k l0 a1 a2 a3 a4 true))) else (L8.j0 k l0 a1 a2 a3 a4 true))
end Go.Proofs.YtmfgajbkcnlkcaaGreat.P
namespace Go.Proofs.YtmfgajbkcnlkcaaGreat.P
open Go.RowKit Go.Proofs.YtmfgajbkcnlkcaaGreatW.PrintWords Go.Proofs.YtmfgajbkcnlkcaaGreatW.PrintLast Go.Proofs.YtmfgajbkcnlkcaaGreatW.PrintMore
attribute [local go_sem] Z7 Z5 A1h A1g W9 W8 Z6 Z4   -- for this text's walks alone
set_option linter.unusedVariables false
set_option linter.unusedSimpArgs false
def R3.l0:Nat→(Int)→(List S80)→(List S84)→(List S106)→(List S110)→(List S60)→(List S93)→(Int)→(Int)→(List Int)→Option (Bool×List S106×Int)
 | 0,_,_,_,_,_,_,_,_,_,_=>none
 | k+1,d,l0,l1,l2,l3,l4,l5,x15,x16,y7=>(if x16<x15 then (if 0≤x16 then (if x16<(l0.length:Int) then (if (M2 l0 x16).f1=1 then (R3.l0 k d l0 l1 l2 l3 l4 l5 x15 (RowKit.wrap64 (x16+1)) y7) else (if y7.length+1<17592186044417 then (R3.l0 k d l0 l1 l2 l3 l4 l5 x15 (RowKit.wrap64 (x16+1)) (y7++([(M2 l0 x16).f0]))) else none)) else none) else none) else ((D9.f k l2 l5 y7).bind fun r11=>(if r11.2=0 then ((R8.f r11.2).bind fun r12=>(some (true,r11.1,r12))) else ((R8.f r11.2).bind fun r12=>(some (false,[],r12))))))
def Y0.f (k:Nat) (l0_0:List (S80)) (l0_1:List (S84)) (l0_2:List (S106)) (l0_3:List (S110)) (l0_4:List (S60)) (a0_5:Int) (a1:Int) (a2:Int) (a3:Int) (a4:Int) (a5:Int):Option ((List (S80))×(List (S84))×(List (S106))×(List (S110))×(List (S60))×Int×Int×Int):=((F5.f k l0_0 l0_1 l0_2 l0_3 l0_4 a0_5).bind fun r12=>(if r12=true then ((I3.f a1).bind fun r13=>(if r13=true then ((I3.f a2).bind fun r14=>(if r14=true then ((I3.f a3).bind fun r15=>(if r15=true then ((J9.f a4 1).bind fun r16=>(if r16=true then ((N9.f a5 1 3).bind fun r17=>(if r17=true then ((C9.f k l0_0 a1).bind fun r18=>((C9.f k l0_0 a2).bind fun r19=>((D6.f k l0_1 a3).bind fun r20=>(if r18=0 then ((D5.f l0_0 l0_1 l0_2 l0_3 l0_4 a0_5).bind fun r21=>(some (r21.1,r21.2.1,r21.2.2.1,r21.2.2.2.1,r21.2.2.2.2.1,r21.2.2.2.2.2,0,3))) else (if r19=0 then ((D5.f l0_0 l0_1 l0_2 l0_3 l0_4 a0_5).bind fun r21=>(some (r21.1,r21.2.1,r21.2.2.1,r21.2.2.2.1,r21.2.2.2.2.1,r21.2.2.2.2.2,0,3))) else (if r20=0 then ((D5.f l0_0 l0_1 l0_2 l0_3 l0_4 a0_5).bind fun r21=>(some (r21.1,r21.2.1,r21.2.2.1,r21.2.2.2.1,r21.2.2.2.2.1,r21.2.2.2.2.2,0,3))) else (if r18=1 then (if r19=1 then (if a1=a2 then ((D5.f l0_0 l0_1 l0_2 l0_3 l0_4 a0_5).bind fun r21=>(some (r21.1,r21.2.1,r21.2.2.1,r21.2.2.2.1,r21.2.2.2.2.1,r21.2.2.2.2.2,0,4))) else ((D5.f l0_0 l0_1 l0_2 l0_3 l0_4 a0_5).bind fun r21=>((Y7.f a1 a2 a3 a4).bind fun r22=>((M6.f k r21.1 r21.2.1 r21.2.2.1 r21.2.2.2.1 r21.2.2.2.2.1 r21.2.2.2.2.2).bind fun r823=>((D7.f k r21.2.2.1 r22 r823).bind fun r924=>(if r924.2=0 then (if r20=2 then ((D2.f k r21.2.2.2.1 a1 a3 a4 a5).bind fun r1325=>(if r1325.2.2=0 then (if -1<0 then (if r21.2.2.2.2.2=1000000000 then ((D5.f l0_0 l0_1 l0_2 l0_3 l0_4 a0_5).bind fun r26=>(some (r26.1,r26.2.1,r26.2.2.1,r26.2.2.2.1,r26.2.2.2.2.1,r26.2.2.2.2.2,0,7))) else ((I7.f k r1325.1 a2 a3 (RowKit.wrap64 (r21.2.2.2.2.2+1)) a4 r1325.2.1).bind fun r111426=>(if r111426.2=0 then (some (r21.1,r21.2.1,r924.1,r111426.1,r21.2.2.2.2.1,RowKit.wrap64 (r21.2.2.2.2.2+1),r1325.2.1,0)) else ((D5.f l0_0 l0_1 l0_2 l0_3 l0_4 a0_5).bind fun r27=>(some (r27.1,r27.2.1,r27.2.2.1,r27.2.2.2.1,r27.2.2.2.2.1,r27.2.2.2.2.2,0,7)))))) else (if r21.2.2.2.2.2=1000000000 then ((D5.f l0_0 l0_1 l0_2 l0_3 l0_4 a0_5).bind fun r26=>(some (r26.1,r26.2.1,r26.2.2.1,r26.2.2.2.1,r26.2.2.2.2.1,r26.2.2.2.2.2,0,7))) else ((I7.f k r1325.1 a2 a3 (RowKit.wrap64 (r21.2.2.2.2.2+1)) a4 (-1)).bind fun r111426=>(if r111426.2=0 then (some (r21.1,r21.2.1,r924.1,r111426.1,r21.2.2.2.2.1,RowKit.wrap64 (r21.2.2.2.2.2+1),r1325.2.1,0)) else ((D5.f l0_0 l0_1 l0_2 l0_3 l0_4 a0_5).bind fun r27=>(some (r27.1,r27.2.1,r27.2.2.1,r27.2.2.2.1,r27.2.2.2.2.1,r27.2.2.2.2.2,0,7))))))) else ((D5.f l0_0 l0_1 l0_2 l0_3 l0_4 a0_5).bind fun r26=>(some (r26.1,r26.2.1,r26.2.2.1,r26.2.2.2.1,r26.2.2.2.2.1,r26.2.2.2.2.2,0,5))))) else (some (r21.1,r21.2.1,r924.1,r21.2.2.2.1,r21.2.2.2.2.1,r21.2.2.2.2.2,0,0))) else (if r924.2=3 then ((D5.f l0_0 l0_1 l0_2 l0_3 l0_4 a0_5).bind fun r25=>(some (r25.1,r25.2.1,r25.2.2.1,r25.2.2.2.1,r25.2.2.2.2.1,r25.2.2.2.2.2,0,5))) else (if r924.2=4 then ((D5.f l0_0 l0_1 l0_2 l0_3 l0_4 a0_5).bind fun r25=>(some (r25.1,r25.2.1,r25.2.2.1,r25.2.2.2.1,r25.2.2.2.2.1,r25.2.2.2.2.2,0,8))) else ((D5.f l0_0 l0_1 l0_2 l0_3 l0_4 a0_5).bind fun r25=>(some (r25.1,r25.2.1,r25.2.2.1,r25.2.2.2.1,r25.2.2.2.2.1,r25.2.2.2.2.2,0,7))))))))))) else ((D5.f l0_0 l0_1 l0_2 l0_3 l0_4 a0_5).bind fun r21=>(some (r21.1,r21.2.1,r21.2.2.1,r21.2.2.2.1,r21.2.2.2.2.1,r21.2.2.2.2.2,0,4)))) else ((D5.f l0_0 l0_1 l0_2 l0_3 l0_4 a0_5).bind fun r21=>(some (r21.1,r21.2.1,r21.2.2.1,r21.2.2.2.1,r21.2.2.2.2.1,r21.2.2.2.2.2,0,4)))))))))) else (some ([],[],[],[],[],0,0,1)))) else (some ([],[],[],[],[],0,0,1)))) else (some ([],[],[],[],[],0,0,1)))) else (some ([],[],[],[],[],0,0,1)))) else (some ([],[],[],[],[],0,0,1)))) else (some ([],[],[],[],[],0,0,1))))
def T8.f (k:Nat) (l0_0:List (S80)) (l0_1:List (S84)) (l0_2:List (S106)) (l0_3:List (S110)) (l0_4:List (S60)) (a0_5:Int) (a1:Int) (a2:Int) (a3:Int) (a4:Int) (a5:Int):Option ((List (S80))×(List (S84))×(List (S106))×(List (S110))×(List (S60))×Int×Int×Int):=((J6.f k l0_0 l0_1 l0_2 l0_3 l0_4 a0_5).bind fun r12=>(if r12=true then ((N6.f ([a1]++[a2]++[a3])).bind fun r13=>(if r13=true then ((J7.f a4 1 1000000000000000).bind fun r14=>(if r14=true then ((J7.f a5 1 3).bind fun r15=>(if r15=true then ((E9.f l0_0 l0_1 l0_2 l0_3 l0_4 a0_5).bind fun r16=>((D3.f k r16.1 a1).bind fun r817=>(if r817=0 then (some (r16.1,r16.2.1,r16.2.2.1,r16.2.2.2.1,r16.2.2.2.2.1,r16.2.2.2.2.2,0,3)) else ((D3.f k r16.1 a2).bind fun r818=>(if r818=0 then (some (r16.1,r16.2.1,r16.2.2.1,r16.2.2.2.1,r16.2.2.2.2.1,r16.2.2.2.2.2,0,3)) else ((E8.f k r16.2.1 a3).bind fun r819=>(if (!decide (r819=0))=true then ((D3.f k r16.1 a1).bind fun r820=>(if r820=1 then ((D3.f k r16.1 a2).bind fun r821=>(if r821=1 then (if a1=a2 then (some (r16.1,r16.2.1,r16.2.2.1,r16.2.2.2.1,r16.2.2.2.2.1,r16.2.2.2.2.2,0,4)) else ((R3.l0 k r16.2.2.2.2.2 r16.1 r16.2.1 r16.2.2.1 r16.2.2.2.1 r16.2.2.2.2.1 ([(⟨a1,a3,RowKit.wrap64 (0-a4)⟩:S93)]++[(⟨a2,a3,a4⟩:S93)]) ((r16.1.length:Int)) 0 []).bind fun r22=>(if r22.1=true then (if r22.2.2=0 then ((E8.f k r16.2.1 a3).bind fun r823=>(if r823=2 then ((L8.f k r16.2.2.2.1 a1 a3 a4 a5).bind fun r1124=>(if r1124.2.2=0 then (if r16.2.2.2.2.2≥1000000000 then ((E9.f l0_0 l0_1 l0_2 l0_3 l0_4 a0_5).bind fun r25=>(some (r25.1,r25.2.1,r25.2.2.1,r25.2.2.2.1,r25.2.2.2.2.1,r25.2.2.2.2.2,0,7))) else ((D1.f k r1124.1 a2 a3 (RowKit.wrap64 (r16.2.2.2.2.2+1)) a4 r1124.2.1).bind fun r1125=>(if r1125.2=0 then (some (r16.1,r16.2.1,r22.2.1,r1125.1,r16.2.2.2.2.1,RowKit.wrap64 (r16.2.2.2.2.2+1),r1124.2.1,0)) else ((E9.f l0_0 l0_1 l0_2 l0_3 l0_4 a0_5).bind fun r26=>(some (r26.1,r26.2.1,r26.2.2.1,r26.2.2.2.1,r26.2.2.2.2.1,r26.2.2.2.2.2,0,7)))))) else ((E9.f l0_0 l0_1 l0_2 l0_3 l0_4 a0_5).bind fun r25=>(some (r25.1,r25.2.1,r25.2.2.1,r25.2.2.2.1,r25.2.2.2.2.1,r25.2.2.2.2.2,0,5))))) else (if r22.2.2=0 then (some (r16.1,r16.2.1,r22.2.1,r16.2.2.2.1,r16.2.2.2.2.1,r16.2.2.2.2.2,0,0)) else ((E9.f l0_0 l0_1 l0_2 l0_3 l0_4 a0_5).bind fun r24=>(some (r24.1,r24.2.1,r24.2.2.1,r24.2.2.2.1,r24.2.2.2.2.1,r24.2.2.2.2.2,0,r22.2.2)))))) else (if r22.2.2=0 then (some (r16.1,r16.2.1,r22.2.1,r16.2.2.2.1,r16.2.2.2.2.1,r16.2.2.2.2.2,0,0)) else ((E9.f l0_0 l0_1 l0_2 l0_3 l0_4 a0_5).bind fun r23=>(some (r23.1,r23.2.1,r23.2.2.1,r23.2.2.2.1,r23.2.2.2.2.1,r23.2.2.2.2.2,0,r22.2.2))))) else (if r22.2.2=0 then ((E8.f k r16.2.1 a3).bind fun r823=>(if r823=2 then ((L8.f k r16.2.2.2.1 a1 a3 a4 a5).bind fun r1124=>(if r1124.2.2=0 then (if r16.2.2.2.2.2≥1000000000 then ((E9.f l0_0 l0_1 l0_2 l0_3 l0_4 a0_5).bind fun r25=>(some (r25.1,r25.2.1,r25.2.2.1,r25.2.2.2.1,r25.2.2.2.2.1,r25.2.2.2.2.2,0,7))) else ((D1.f k r1124.1 a2 a3 (RowKit.wrap64 (r16.2.2.2.2.2+1)) a4 r1124.2.1).bind fun r1125=>(if r1125.2=0 then (some (r16.1,r16.2.1,r16.2.2.1,r1125.1,r16.2.2.2.2.1,RowKit.wrap64 (r16.2.2.2.2.2+1),r1124.2.1,0)) else ((E9.f l0_0 l0_1 l0_2 l0_3 l0_4 a0_5).bind fun r26=>(some (r26.1,r26.2.1,r26.2.2.1,r26.2.2.2.1,r26.2.2.2.2.1,r26.2.2.2.2.2,0,7)))))) else ((E9.f l0_0 l0_1 l0_2 l0_3 l0_4 a0_5).bind fun r25=>(some (r25.1,r25.2.1,r25.2.2.1,r25.2.2.2.1,r25.2.2.2.2.1,r25.2.2.2.2.2,0,5))))) else (if r22.2.2=0 then (some (r16.1,r16.2.1,r16.2.2.1,r16.2.2.2.1,r16.2.2.2.2.1,r16.2.2.2.2.2,0,0)) else ((E9.f l0_0 l0_1 l0_2 l0_3 l0_4 a0_5).bind fun r24=>(some (r24.1,r24.2.1,r24.2.2.1,r24.2.2.2.1,r24.2.2.2.2.1,r24.2.2.2.2.2,0,r22.2.2)))))) else (if r22.2.2=0 then (some (r16.1,r16.2.1,r16.2.2.1,r16.2.2.2.1,r16.2.2.2.2.1,r16.2.2.2.2.2,0,0)) else ((E9.f l0_0 l0_1 l0_2 l0_3 l0_4 a0_5).bind fun r23=>(some (r23.1,r23.2.1,r23.2.2.1,r23.2.2.2.1,r23.2.2.2.2.1,r23.2.2.2.2.2,0,r22.2.2)))))))) else (some (r16.1,r16.2.1,r16.2.2.1,r16.2.2.2.1,r16.2.2.2.2.1,r16.2.2.2.2.2,0,4)))) else (some (r16.1,r16.2.1,r16.2.2.1,r16.2.2.2.1,r16.2.2.2.2.1,r16.2.2.2.2.2,0,4)))) else (some (r16.1,r16.2.1,r16.2.2.1,r16.2.2.2.1,r16.2.2.2.2.1,r16.2.2.2.2.2,0,3))))))))) else (some ([],[],[],[],[],0,0,1)))) else (some ([],[],[],[],[],0,0,1)))) else (some ([],[],[],[],[],0,0,1)))) else (some ([],[],[],[],[],0,0,1))))
def R4.f (k:Nat) (l0_0:List (S103)) (l0_1:List (S105)) (l0_2:List (S108)) (l0_3:List (S112)) (l0_4:List (S114)) (a0_5:Int) (a1:Int) (a2:Int) (a3:Int) (a4:Int) (a5:Int):Option (Bool):=((V5.f l0_0 l0_1 l0_2 l0_3 l0_4 a0_5 1048576).bind fun r12=>(if r12<0 then (some true) else ((R5.f k l0_0 l0_1 l0_2 l0_3 l0_4 a0_5).bind fun r13=>((Y0.f k r13.1 r13.2.1 r13.2.2.1 r13.2.2.2.1 r13.2.2.2.2.1 r13.2.2.2.2.2 a1 a2 a3 a4 a5).bind fun r14=>((R5.f k l0_0 l0_1 l0_2 l0_3 l0_4 a0_5).bind fun r15=>((T8.f k r15.1 r15.2.1 r15.2.2.1 r15.2.2.2.1 r15.2.2.2.2.1 r15.2.2.2.2.2 a1 a2 a3 a4 a5).bind fun r16=>((R6.f k r16.1 r16.2.1 r16.2.2.1 r16.2.2.2.1 r16.2.2.2.2.1 r16.2.2.2.2.2.1 r14.1 r14.2.1 r14.2.2.1 r14.2.2.2.1 r14.2.2.2.2.1 r14.2.2.2.2.2.1).bind fun r17=>(if r17=true then (if r16.2.2.2.2.2.2.1=r14.2.2.2.2.2.2.1 then (if r16.2.2.2.2.2.2.2=r14.2.2.2.2.2.2.2 then ((R5.f k l0_0 l0_1 l0_2 l0_3 l0_4 a0_5).bind fun r18=>((R6.f k r15.1 r15.2.1 r15.2.2.1 r15.2.2.2.1 r15.2.2.2.2.1 r15.2.2.2.2.2 r18.1 r18.2.1 r18.2.2.1 r18.2.2.2.1 r18.2.2.2.2.1 r18.2.2.2.2.2).bind fun r19=>(if r19=true then ((S6.f k r15.1 r15.2.1 r15.2.2.1 r15.2.2.2.1 r15.2.2.2.2.1 r15.2.2.2.2.2 1).bind fun r20=>(if r20.1<0 then (some false) else ((R6.f k r16.1 r16.2.1 r16.2.2.1 r16.2.2.2.1 r16.2.2.2.2.1 r16.2.2.2.2.2.1 r14.1 r14.2.1 r14.2.2.1 r14.2.2.2.1 r14.2.2.2.2.1 r14.2.2.2.2.2.1).bind fun r21=>(if r21=true then (if r16.2.2.2.2.2.2.1=r14.2.2.2.2.2.2.1 then (if r16.2.2.2.2.2.2.2=r14.2.2.2.2.2.2.2 then ((S6.f k r16.1 r16.2.1 r16.2.2.1 r16.2.2.2.1 r16.2.2.2.2.1 r16.2.2.2.2.2.1 1).bind fun r22=>((S7.f k r22.2.1 r22.2.2.1 r22.2.2.2.1 r22.2.2.2.2.1 r22.2.2.2.2.2 r16.2.2.2.2.2.1 1).bind fun r23=>(if r23<0 then (some false) else (if r23=r22.1 then ((R5.f k l0_0 l0_1 l0_2 l0_3 l0_4 a0_5).bind fun r24=>((T8.f k r24.1 r24.2.1 r24.2.2.1 r24.2.2.2.1 r24.2.2.2.2.1 r24.2.2.2.2.2 a1 a2 a3 a4 a5).bind fun r25=>((R6.f k r25.1 r25.2.1 r25.2.2.1 r25.2.2.2.1 r25.2.2.2.2.1 r25.2.2.2.2.2.1 r14.1 r14.2.1 r14.2.2.1 r14.2.2.2.1 r14.2.2.2.2.1 r14.2.2.2.2.2.1).bind fun r26=>(if r26=true then (if r25.2.2.2.2.2.2.1=r14.2.2.2.2.2.2.1 then (if r25.2.2.2.2.2.2.2=r14.2.2.2.2.2.2.2 then ((S7.f k r22.2.1 r22.2.2.1 r22.2.2.2.1 r22.2.2.2.2.1 r22.2.2.2.2.2 r16.2.2.2.2.2.1 1).bind fun r27=>(if r27<0 then (some false) else (if r27=r22.1 then (some true) else (some false)))) else (some false)) else (some false)) else (some false))))) else (some false))))) else (some false)) else (some false)) else (some false))))) else (some false)))) else (some false)) else (some false)) else (some false)))))))))
end Go.Proofs.YtmfgajbkcnlkcaaGreat.P
namespace Go.Proofs.YtmfgajbkcnlkcaaGreat.AI
set_option linter.all false
open Go
inductive Sc where
 | i (k:IntKind) (n:Int)
 | b (x:Bool)
def Sc.v:Sc→Value
 | .i k n=>.int k n
 | .b x=>.bool x
class RowT (R:Type) where
 ty:R→TypeId
 cel:R→List (List Sc)
 len:R→Nat
 elt:R→Nat→List Sc
 nil:TypeId→Option R
 zer:TypeId→Nat→Option R
 snoc:R→List Sc→Option R
 app:R→R→Option R
 set:R→Nat→List Sc→Option R
 sub:R→Nat→Nat→R
 setK:R→Nat→List Sc→(Z:Type)→(R→Option Z)→Option Z
inductive C where
 | sc (v:Sc)
 | kb (b:Bool)
 | bo (p:Prop) (i:Decidable p)
 | nb (p:Prop) (i:Decidable p)
 | rw (id:Nat)
inductive W where
 | c (x:C)
 | ag (cs:List C)
inductive V where
 | w (x:W)
 | tu (ws:List W)
 | pt (id off:Nat)
 | ep (id sz i off:Nat)
 | sub (id sz lo n:Nat)
 | nl
 | un
 | no
inductive Blk (R:Type) where
 | rows (k:Nat) (r:R)
 | box (t:TypeId) (cs:List C)
 | dead
structure St (R:Type) where
 nt:Nat
 na:Nat
 nx:Nat
 tm:List (Nat×V)
 hp:List (Nat×Blk R)
structure Out (R:Type) where
 res:List W
 hp:List (Blk R)
structure Tst where
 p:Prop
 i:Decidable p
def get {α:Type}:List (Nat×α)→Nat→Option α
 | [],_=>none
 | (k,v)::r,n=>cond (Nat.beq k n) (some v) (get r n)
def nth {α:Type}:List α→Nat→Option α
 | [],_=>none
 | x::_,0=>some x
 | _::r,n+1=>nth r n
def A5s {α:Type}:List α→Nat→α→List α
 | [],_,_=>[]
 | _::r,0,y=>y::r
 | x::r,n+1,y=>x::A5s r n y
section
variable {R:Type} [RowT R]
def St.v (st:St R) (t:Nat):V:=(get st.tm t).getD .no
def ev (st:St R):Operand→V
 | .tmp t=>st.v t
 | .const (.bool b)=>.w (.c (.kb b))
 | .const (.int k n)=>.w (.c (.sc (.i k n)))
 | .const (.slice none 0 0)=>.nl
 | _=>.no
def St.put (st:St R) (d:Option Nat) (v:V):Option (St R):=
 match d with
 | none=>some st
 | some d=>cond (Nat.blt d st.nt) (some { st with tm:=(d,v)::st.tm }) none
def St.know (st:St R) (t:Nat) (b:Bool):St R:={ st with tm:=(t,.w (.c (.kb b)))::st.tm }
def wr (k:IntKind) (n:Int):Int:=match k with
 | .i64=>RowKit.wrap64 n
 | k=>k.wrap n
theorem B6y (k:IntKind) (n:Int):wr k n=k.wrap n:=by
 cases k<;>first | rfl | (simp only [wr];rw [IntKind.wrap_i64];unfold RowKit.wrap64;rfl)
def C.val:C→Option Sc
 | .sc v=>some v
 | .kb b=>some (.b b)
 | .bo p i=>some (.b (@decide p i))
 | .nb p i=>some (.b (!@decide p i))
 | .rw _=>none
def binI (op:BinOp) (k:IntKind) (a b:Int):Option (List Tst×C):=
 match op with
 | .add=>some ([],.sc (.i k (wr k (a+b))))
 | .sub=>some ([],.sc (.i k (wr k (a-b))))
 | .mul=>some ([],.sc (.i k (wr k (a*b))))
 | .quo=>some ([⟨b≠0,inferInstance⟩],.sc (.i k (wr k (a.tdiv b))))
 | .rem=>some ([⟨b≠0,inferInstance⟩],.sc (.i k (a.tmod b)))
 | .eql=>some ([],.bo (a=b) inferInstance)
 | .neq=>some ([],.nb (a=b) inferInstance)
 | .lss=>some ([],.bo (a<b) inferInstance)
 | .leq=>some ([],.bo (a≤b) inferInstance)
 | .gtr=>some ([],.bo (a>b) inferInstance)
 | .geq=>some ([],.bo (a≥b) inferInstance)
 | .and=>some ([],.sc (.i k (bits .and k a b)))
 | .or=>some ([],.sc (.i k (bits .or k a b)))
 | .shl=>some ([⟨0≤b,inferInstance⟩],.sc (.i k (k.wrap (a*2 ^ min b.toNat k.bits))))
 | .shr=>some ([⟨0≤b,inferInstance⟩],.sc (.i k (a/2 ^ min b.toNat k.bits)))
 | _=>none
def A7t (P:Program) (t:TypeId):Bool:=match P.underlying t with
 | some .bool=>true
 | _=>false
def binV (bl:Bool) (op:BinOp):V→V→Option (List Tst×C)
 | .w (.c (.sc (.i k a))),.w (.c (.sc (.i k' b)))=>if k=k' then binI op k a b else none
 | .w (.c x),.w (.c y)=>match C.val x,C.val y with
   | some (.b a),some (.b b)=>cond bl (match op with
     | .eql=>some ([],.sc (.b (a == b)))
     | .neq=>some ([],.sc (.b (a != b)))
     | _=>none) none
   | _,_=>none
 | _,_=>none
def unV (op:UnOp):V→Option C
 | .w (.c x)=>
   match op,x with
   | .not,.kb b=>some (.kb (!b))
   | .not,.bo p i=>some (.nb p i)
   | .not,.nb p i=>some (.bo p i)
   | .not,.sc (.b b)=>some (.nb (b=true) inferInstance)
   | .neg,.sc (.i k n)=>some (.sc (.i k (wr k (0-n))))
   | _,_=>none
 | _=>none
def vals:List C→Option (List Sc)
 | []=>some []
 | c::r=>match c.val,vals r with
   | some v,some vs=>some (v::vs)
   | _,_=>none
def W.cells:W→List C
 | .c x=>[x]
 | .ag cs=>cs
def W6 (P:Program) (nx:Nat):List Value→List Field→Option (Nat×List C×List (Nat×Blk R))
 | [],[]=>some (nx,[],[])
 | .slice none 0 0::vs,f::fs=>
   match P.underlying f.type with
   | some (.slice e)=>match (RowT.nil e:Option R),W6 P (nx+1) vs fs with
     | some r,some (nx',cs,es)=>some (nx',.rw nx::cs,es++[(nx,.rows 2 r)])
     | _,_=>none
   | _=>none
 | .int k n::vs,_::fs=>match W6 P nx vs fs with
   | some (nx',cs,es)=>some (nx',.sc (.i k n)::cs,es)
   | none=>none
 | .bool b::vs,_::fs=>match W6 P nx vs fs with
   | some (nx',cs,es)=>some (nx',.kb b::cs,es)
   | none=>none
 | _,_=>none
def A4y (P:Program) (t:TypeId) (st:St R):Option (St R×List C):=
 match P.underlying t,P.info? t with
 | some (.struct fs),some i=>match i.zero with
   | some (.agg cs)=>match W6 P st.nx cs.toList fs.toList with
     | some (nx,cs,es)=>some ({ st with nx:=nx,hp:=es++st.hp },cs)
     | none=>none
   | _=>none
 | _,_=>none
def newRows (st:St R) (d:Option Nat) (r:R):Option (St R):=
 ({ st with nx:=st.nx+1,hp:=(st.nx,.rows 2 r)::st.hp }:St R).put d (.w (.c (.rw st.nx)))
def newBox (st:St R) (d:Option Nat) (t:TypeId) (cs:List C):Option (St R):=
 ({ st with nx:=st.nx+1,hp:=(st.nx,.box t cs)::st.hp }:St R).put d (.pt st.nx 0)
def parts (st:St R):List (Nat×Operand)→List C→Option (List C)
 | [],cs=>some cs
 | (i,x)::r,cs=>match ev st x with
   | .w (.c y)=>match nth cs i with
     | some _=>parts st r (A5s cs i y)
     | none=>none
   | _=>none
def elems (st:St R):List (Nat×Operand)→Nat→R→Option R
 | [],_,r=>some r
 | (i,x)::rest,n,r=>cond (Nat.beq i n) (match ev st x with
   | .w y=>match vals y.cells with
     | some vs=>match RowT.snoc r vs with
       | some r'=>elems st rest (n+1) r'
       | none=>none
     | none=>none
   | _=>none) none
def B8e (P:Program) (fs:List Field) (f:Nat):Option Nat:=match nth fs f with
 | some x=>cond (Nat.beq (P.cellsOf x.type) 1) (some x.offset) none
 | none=>none
def V2 (P:Program) (t:TypeId):Bool:=match P.underlying t with
 | some (.struct _)=>true
 | _=>false
def A4r (P:Program) (t:TypeId):Bool:=Nat.beq (P.cellsOf t) 1&&match P.underlying t with
 | some (.int _)=>true
 | some .bool=>true
 | some (.slice _)=>true
 | _=>false
def B4w (P:Program):List Field→Nat→Bool
 | [],_=>true
 | f::r,n=>Nat.beq f.offset n&&Nat.beq (P.cellsOf f.type) 1&&B4w P r (n+1)
def B4v (P:Program) (t:TypeId) (n:Nat):Bool:=match P.underlying t with
 | some (.struct fs)=>B4w P fs.toList 0&&Nat.beq n fs.size
 | _=>false
def lim (bytes:Nat):Nat:=140737488355328/bytes+1
def limM (bytes:Nat):Nat:=281474976710656/bytes+1
def mvOf (P:Program) (o:Oper) (st:St R) (x:Operand):Option (List Tst×St R):=match ev st x with
 | .nl=>match x with
   | .const _=>match P.underlying o.type with
     | some (.slice e)=>match (RowT.nil e:Option R) with
       | some r=>match newRows st o.dst r with
         | some s=>some ([],s)
         | none=>none
       | none=>none
     | _=>none
   | _=>none
 | .no=>none
 | .un=>none
 | v=>match st.put o.dst v with
   | some s=>some ([],s)
   | none=>none
def pop (P:Program) (o:Oper) (st:St R):Option (List Tst×St R):=
 let ok (s:Option (St R)):Option (List Tst×St R):=match s with
  | some s=>some ([],s)
  | none=>none
 match o.op with
 | .move x=>mvOf P o st x
 | .assign x=>mvOf P o st x
 | .pick c a b=>match ev st c with
   | .w (.c (.kb true))=>match ev st a with
     | .w (.c x)=>ok (st.put o.dst (.w (.c x)))
     | _=>none
   | .w (.c (.kb false))=>match ev st b with
     | .w (.c x)=>ok (st.put o.dst (.w (.c x)))
     | _=>none
   | _=>none
 | .alloc t=>match A4y P t st with
   | some (st',cs)=>ok (newBox st' o.dst t cs)
   | none=>none
 | .box t x=>match ev st x with
   | .w y=>ok (newBox st o.dst t y.cells)
   | _=>none
 | .build t ps=>match A4y P t st with
   | some (st',cs)=>match parts st ps.toList cs with
     | some cs'=>cond (B4v P t cs.length) (ok (st'.put o.dst (.w (.ag cs')))) none
     | none=>none
   | none=>none
 | .buildSlice t n ps=>match P.underlying t with
   | some (.slice e)=>match (RowT.nil e:Option R) with
     | some r0=>match elems st ps.toList 0 r0 with
       | some r=>cond (Nat.beq n ps.size&&Nat.ble (n*P.cellsOf e) 16777216) (ok (newRows st o.dst r)) none
       | none=>none
     | none=>none
   | _=>none
 | .load t x=>match ev st x with
   | .pt id off=>match get st.hp id with
     | some (.box t' cs)=>
       cond (V2 P t&&Nat.beq off 0&&Nat.beq t t'&&Nat.beq (P.cellsOf t) cs.length) (ok (st.put o.dst (.w (.ag cs))))
        (cond (A4r P t) (match nth cs off with
          | some c=>ok (st.put o.dst (.w (.c c)))
          | none=>none) none)
     | _=>none
   | .ep id _ i off=>match get st.hp id with
     | some (.rows _ r)=>
       cond (V2 P t&&Nat.beq off 0&&Nat.beq t (RowT.ty r)) (ok (st.put o.dst (.w (.ag ((RowT.elt r i).map .sc)))))
        (cond (A4r P t) (match nth (RowT.elt r i) off with
          | some v=>ok (st.put o.dst (.w (.c (.sc v))))
          | none=>none) none)
     | _=>none
   | _=>none
 | .store t a x=>match o.dst,ev st a,ev st x with
   | none,.pt id off,.w y=>match get st.hp id with
     | some (.box t' cs)=>match y with
       | .ag ys=>cond (V2 P t&&Nat.beq off 0&&Nat.beq t t'&&Nat.beq ys.length cs.length&&Nat.beq (P.cellsOf t) cs.length) (some ([],{ st with hp:=(id,.box t' ys)::st.hp })) none
       | .c y=>cond (A4r P t) (match nth cs off with
         | some _=>some ([],{ st with hp:=(id,.box t' (A5s cs off y))::st.hp })
         | none=>none) none
     | _=>none
   | none,.ep id _ i off,.w y=>match get st.hp id with
     | some (.rows (k+1) r)=>match y with
       | .ag ys=>match vals ys with
         | some vs=>cond (V2 P t&&Nat.beq off 0&&Nat.beq t (RowT.ty r)) (match RowT.set r i vs with
           | some r'=>some ([],{ st with hp:=(id,.rows (k+1) r')::st.hp })
           | none=>none) none
         | none=>none
       | .c y=>match y.val with
         | some v=>cond (A4r P t) (match nth (RowT.elt r i) off with
           | some _=>match RowT.set r i (A5s (RowT.elt r i) off v) with
             | some r'=>some ([],{ st with hp:=(id,.rows (k+1) r')::st.hp })
             | none=>none
           | none=>none) none
         | none=>none
     | _=>none
   | _,_,_=>none
 | .nilCheck x=>match ev st x with
   | .pt id off=>match get st.hp id with
     | some (.box _ _)=>ok (st.put o.dst (.pt id off))
     | _=>none
   | _=>none
 | .binOp op t x y _=>match binV (A7t P t) op (ev st x) (ev st y) with
   | some (ts,c)=>match st.put o.dst (.w (.c c)) with
     | some st'=>some (ts,st')
     | none=>none
   | none=>none
 | .unOp op _ x=>match unV op (ev st x) with
   | some c=>ok (st.put o.dst (.w (.c c)))
   | none=>none
 | .convert s d x=>match ev st x,P.underlying s,P.underlying d with
   | .w (.c (.sc (.i _ n))),some (.int _),some (.int k)=>ok (st.put o.dst (.w (.c (.sc (.i k (wr k n))))))
   | _,_,_=>none
 | .makeSlice t l c=>match P.underlying t,ev st l,ev st c with
   | some (.slice e),.w (.c (.sc (.i .i64 n))),.w (.c (.sc (.i .i64 m)))=>match (RowT.zer e n.toNat:Option R),P.info? e with
     | some r,some i=>match newRows st o.dst r with
       | some st'=>some ([⟨n=m,inferInstance⟩,⟨0≤n,inferInstance⟩,⟨n<(limM i.bytes:Nat),inferInstance⟩],st')
       | none=>none
     | _,_=>none
   | _,_,_=>none
 | .fieldAddr s x f=>match P.underlying s,ev st x with
   | some (.struct fs),.pt id off=>match B8e P fs.toList f,get st.hp id with
     | some k,some (.box _ _)=>cond (Nat.beq off 0) (ok (st.put o.dst (.pt id k))) none
     | _,_=>none
   | some (.struct fs),.ep id sz i off=>match B8e P fs.toList f,get st.hp id with
     | some k,some (.rows _ _)=>cond (Nat.beq off 0) (ok (st.put o.dst (.ep id sz i k))) none
     | _,_=>none
   | _,_=>none
 | .indexAddr t x i=>match P.underlying t,ev st x,ev st i with
   | some (.slice e),.w (.c (.rw id)),.w (.c (.sc (.i _ n)))=>match get st.hp id,P.info? e with
     | some (.rows _ r),some inf=>cond (Nat.beq e (RowT.ty r)) (match st.put o.dst (.ep id inf.size n.toNat 0) with
       | some st'=>some ([⟨0≤n,inferInstance⟩,⟨n<(RowT.len r:Nat),inferInstance⟩],st')
       | none=>none) none
     | _,_=>none
   | _,_,_=>none
 | .slice t x lo hi mx=>match P.underlying t,ev st x,mx with
   | some (.slice e),.w (.c (.rw id)),none=>match get st.hp id,P.info? e with
     | some (.rows _ r),some inf=>cond (Nat.beq e (RowT.ty r)) (match lo,hi with
       | none,some y=>match ev st y with
         | .w (.c (.sc (.i .i64 n)))=>match st.put o.dst (.sub id inf.size 0 n.toNat) with
           | some st'=>some ([⟨0≤n,inferInstance⟩,⟨n≤(RowT.len r:Nat),inferInstance⟩],st')
           | none=>none
         | _=>none
       | some y,none=>match ev st y with
         | .w (.c (.sc (.i .i64 n)))=>match st.put o.dst (.sub id inf.size n.toNat (RowT.len r-n.toNat)) with
           | some st'=>some ([⟨0≤n,inferInstance⟩,⟨n≤(RowT.len r:Nat),inferInstance⟩],st')
           | none=>none
         | _=>none
       | _,_=>none) none
     | _,_=>none
   | _,_,_=>none
 | .extract x k=>match ev st x with
   | .tu ws=>match nth ws k with
     | some y=>ok (st.put o.dst (.w y))
     | none=>none
   | _=>none
 | .call c=>match c.callee with
   | .builtin .len=>match c.args.toList,c.argTypes.toList with
     | [x],[t]=>match ev st x,P.underlying t with
       | .w (.c (.rw id)),some (.slice _)=>match get st.hp id with
         | some (.rows _ r)=>ok (st.put o.dst (.w (.c (.sc (.i .i64 (RowT.len r:Nat))))))
         | _=>none
       | _,_=>none
     | _,_=>none
   | .builtin .min=>match c.args.toList with
     | [x,y]=>match ev st x,ev st y with
       | .w (.c (.sc (.i k a))),.w (.c (.sc (.i k' b)))=>if k=k' then ok (st.put o.dst (.w (.c (.sc (.i k (if b<a then b else a)))))) else none
       | _,_=>none
     | _=>none
   | .builtin .append=>match c.args.toList,c.argTypes.toList with
     | [x,y],[t,u]=>match ev st x,ev st y,P.underlying t with
       | .w (.c (.rw id)),.w (.c (.rw jd)),some (.slice e)=>cond (Nat.beq t u&&!Nat.beq id jd) (match get st.hp id,get st.hp jd,P.info? e with
         | some (.rows 2 r),some (.rows _ s),some inf=>match cond (Nat.beq e (RowT.ty r)) (RowT.app r s) none with
           | some r'=>match ({ st with nx:=st.nx+1,hp:=(st.nx,.rows 2 r')::(id,.dead)::st.hp }:St R).put o.dst (.w (.c (.rw st.nx))) with
             | some st'=>some ([⟨RowT.len r+RowT.len s<lim inf.bytes,inferInstance⟩],st')
             | none=>none
           | none=>none
         | _,_,_=>none) none
       | .w (.c (.rw id)),.sub jd _ lo n,some (.slice e)=>cond (Nat.beq t u&&!Nat.beq id jd) (match get st.hp id,get st.hp jd,P.info? e with
         | some (.rows 2 r),some (.rows _ s0),some inf=>match cond (Nat.beq e (RowT.ty r)) (RowT.app r (RowT.sub s0 lo n)) none with
           | some r'=>match ({ st with nx:=st.nx+1,hp:=(st.nx,.rows 2 r')::(id,.dead)::st.hp }:St R).put o.dst (.w (.c (.rw st.nx))) with
             | some st'=>some ([⟨RowT.len r+n<lim inf.bytes,inferInstance⟩],st')
             | none=>none
           | none=>none
         | _,_,_=>none) none
       | _,_,_=>none
     | _,_=>none
   | _=>none
 | _=>none
abbrev Mean (R:Type):=Nat→List V→List (Blk R)→(Z:Type)→(Out R→Option Z)→Option Z
def A5d:List C→Nat→Option (List C×List Nat)
 | [],_=>some ([],[])
 | .rw id::r,n=>match A5d r (n+1) with
   | some (cs,ids)=>some (.rw n::cs,id::ids)
   | none=>none
 | c::r,n=>match c.val,A5d r n with
   | some v,some (cs,ids)=>some (.sc v::cs,ids)
   | _,_=>none
def lend (lent:Bool):Blk R→Option (Blk R)
 | .rows k r=>cond lent (match k with
   | 0=>none
   | _=>some (.rows 1 r)) (some (.rows 0 r))
 | _=>none
def A2m (st:St R) (lent:Bool):List Nat→Option (List (Blk R))
 | []=>some []
 | id::r=>match get st.hp id with
   | some b=>match lend lent b,A2m st lent r with
     | some b',some bs=>some (b'::bs)
     | _,_=>none
   | none=>none
def B7z (st:St R) (lent:Bool) (v:V) (n:Nat):Option (V×List (Blk R)×List Nat):=
 match v with
 | .w (.c x)=>match A5d [x] n with
   | some ([y],ids)=>match A2m st lent ids with
     | some bs=>some (.w (.c y),bs,ids)
     | none=>none
   | _=>none
 | .w (.ag xs)=>match A5d xs n with
   | some (ys,ids)=>match A2m st lent ids with
     | some bs=>some (.w (.ag ys),bs,ids)
     | none=>none
   | none=>none
 | .pt id 0=>match get st.hp id with
   | some (.box t cs)=>match A5d cs (n+1) with
     | some (ys,ids)=>match A2m st false ids with
       | some bs=>some (.pt n 0,.box t ys::bs,id::ids)
       | none=>none
     | none=>none
   | _=>none
 | _=>none
def pack (st:St R) (lent:Bool):List Operand→Nat→Option (List V×List (Blk R)×List Nat)
 | [],_=>some ([],[],[])
 | x::r,n=>match B7z st lent (ev st x) n with
   | some (v,bs,ids)=>match pack st lent r (n+ids.length) with
     | some (vs,bs',ids')=>some (v::vs,bs++bs',ids++ids')
     | none=>none
   | none=>none
def B3y:List Nat→Bool
 | []=>true
 | x::r=>!(r.any (Nat.beq x))&&B3y r
def back (src:List Nat) (nx:Nat) (id:Nat):Nat:=match nth src id with
 | some j=>j
 | none=>nx+(id-src.length)
def A6q (src:List Nat) (nx:Nat):C→C
 | .rw id=>.rw (back src nx id)
 | c=>c
def C0s (src:List Nat) (nx:Nat):W→W
 | .c x=>.c (A6q src nx x)
 | .ag xs=>.ag (xs.map (A6q src nx))
def A2d (src:List Nat) (nx:Nat):List (Blk R)→List (Blk R)→Nat→List (Nat×Blk R)→Option (List (Nat×Blk R))
 | [],_,_,hp=>some hp
 | b::bs,olds,n,hp=>
   match olds,b with
   | .rows 0 _::olds,.rows 0 _=>A2d src nx bs olds (n+1) hp
   | .rows 1 _::olds,.rows 1 r=>match get hp (back src nx n) with
     | some (.rows k _)=>A2d src nx bs olds (n+1) ((back src nx n,.rows k r)::hp)
     | _=>none
   | .box t _::olds,.box _ cs=>A2d src nx bs olds (n+1) ((back src nx n,.box t (cs.map (A6q src nx)))::hp)
   | [],.rows 2 r=>A2d src nx bs [] (n+1) ((back src nx n,.rows 2 r)::hp)
   | _,_=>none
def resV (src:List Nat) (nx:Nat):List W→V
 | [y]=>.w (C0s src nx y)
 | ys=>.tu (ys.map (C0s src nx))
def C0x (st:St R) (src:List Nat) (bs:List (Blk R)) (d:Option Nat) (out:Out R):Option (St R):=
 match A2d src st.nx out.hp bs 0 st.hp with
 | some hp=>({ st with nx:=st.nx+(out.hp.length-src.length),hp:=hp }:St R).put d (resV src st.nx out.res)
 | none=>none
def A0j:Op→Bool
 | .move x=>match x with
   | .const (.slice _ _ _)=>false
   | _=>true
 | .assign x=>match x with
   | .const (.slice _ _ _)=>false
   | _=>true
 | .pick _ _ _=>true
 | .load _ _=>true
 | .nilCheck _=>true
 | .binOp _ _ _ _ _=>true
 | .unOp _ _ _=>true
 | .convert _ _ _=>true
 | .fieldAddr _ _ _=>true
 | .indexAddr _ _ _=>true
 | .extract _ _=>true
 | .slice _ _ _ _ _=>true
 | .call c=>match c.callee with
   | .builtin .len=>true
   | .builtin .min=>true
   | _=>false
 | _=>false
def idOf:V→List Nat
 | .pt id _=>[id]
 | .ep id _ _ _=>[id]
 | .w (.c (.rw id))=>[id]
 | _=>[]
def B8x (st:St R) (o:Oper):List Nat:=match o.op with
 | .load _ x=>idOf (ev st x)
 | _=>[]
def A3a (st:St R) (o:Oper):List Nat:=match o.op with
 | .store _ x _=>idOf (ev st x)
 | .call c=>match c.callee with
   | .builtin .append=>match c.args.toList with
     | x::_=>idOf (ev st x)
     | _=>[]
   | _=>[]
 | _=>[]
def B5t (o:Oper):Option (FuncId×List Operand):=match o.op with
 | .call c=>match c.callee with
   | .value (.func f)=>some (f,c.args.toList)
   | _=>none
 | _=>none
structure Cal (R:Type) where
 f:FuncId
 lent:Bool
 sem:Mean R
def find:List (Cal R)→FuncId→Option (Cal R)
 | [],_=>none
 | o::r,f=>cond (Nat.beq o.f f) (some o) (find r f)
def C3k {Z:Type}:List Tst→Option Z→Option Z
 | [],z=>z
 | t::r,z=>@ite _ t.p t.i (C3k r z) none
def part {Z:Type} (st:St R) (t:Nat) (F:Bool→St R→Option Z):Option Z:=
 match st.v t with
 | .w (.c (.kb true))=>F true st
 | .w (.c (.kb false))=>F false st
 | .w (.c (.bo p i))=>@ite _ p i (F true (st.know t true)) (F false (st.know t false))
 | .w (.c (.nb p i))=>@ite _ p i (F false (st.know t false)) (F true (st.know t true))
 | .w (.c (.sc (.b b)))=>if b=true then F true (st.know t true) else F false (st.know t false)
 | _=>none
def isRo:Blk R→Bool
 | .rows 0 _=>true
 | _=>false
def A9l (bs:List (Blk R)) (src:List Nat):List Nat:=cond (bs.all isRo) [] src
def subset (l m:List Nat):Bool:=l.all fun x=>m.any (Nat.beq x)
def A9w (lim:Option (List Nat)) (l:List Nat):Bool:=match lim with
 | none=>true
 | some d=>subset l d
def A8k (P:Program) (o:Oper) (st:St R):Option (Nat×Nat×R×Nat×List Sc):=
 match o.op with
 | .store t a x=>match o.dst,ev st a,ev st x with
   | none,.ep id _ i off,.w y=>match get st.hp id with
     | some (.rows (k+1) r)=>match y with
       | .ag ys=>match vals ys with
         | some vs=>cond (V2 P t&&Nat.beq off 0&&Nat.beq t (RowT.ty r)) (some (id,k+1,r,i,vs)) none
         | none=>none
       | .c y=>match y.val with
         | some v=>cond (A4r P t) (match nth (RowT.elt r i) off with
           | some _=>some (id,k+1,r,i,A5s (RowT.elt r i) off v)
           | none=>none) none
         | none=>none
     | _=>none
   | _,_,_=>none
 | _=>none
def eop {Z:Type} (P:Program) (O:List (Cal R)) (k:Nat) (lim:Option (List Nat)) (o:Oper) (st:St R) (K:St R→Option Z):Option Z:=
 match B5t o with
 | some (f,xs)=>match find O f with
   | some c=>match pack st c.lent xs 0 with
     | some (vs,bs,src)=>cond (B3y src&&A9w lim (A9l bs src)) (c.sem k vs bs Z fun out=>match C0x st src bs o.dst out with
       | some st'=>K st'
       | none=>none) none
     | none=>none
   | none=>none
 | none=>cond (A9w lim (A3a st o)) (match A8k P o st with
   | some (id,k,r,i,vs)=>RowT.setK r i vs Z fun r'=>K { st with hp:=(id,.rows k r')::st.hp }
   | none=>match pop P o st with
     | some (ts,st')=>C3k ts (K st')
     | none=>none) none
def A6h {Z:Type} (ops:List Oper) (o:Oper) (st:St R) (run pass:St R→Option Z):Option Z:=
 match o.guard with
 | none=>run st
 | some (j,want)=>match (nth ops j).bind (·.dst) with
   | some t=>match st.v t with
     | .un=>pass st
     | _=>part st t fun b st'=>cond (b == want) (run st') (pass st')
   | none=>none
def B0j {Z:Type} (o:Oper) (st:St R) (K:St R→Option Z):Option Z:=match st.put o.dst .un with
 | some st'=>K st'
 | none=>none
def eops {Z:Type} (P:Program) (O:List (Cal R)) (k:Nat) (ops:List Oper):List Oper→St R→(St R→Option Z)→Option Z
 | [],st,K=>K st
 | o::rest,st,K=>A6h ops o st (fun st'=>eop P O k none o st' fun st''=>eops P O k ops rest st'' K) (fun st'=>B0j o st' fun st''=>eops P O k ops rest st'' K)
def B0y (ops:Array Oper) (listed:Array Bool):List Nat→Option Nat
 | []=>none
 | i::r=>cond ((match ops[i]? with
   | some o=>A0j o.op
   | none=>false)&&Region.free .any ops listed i) (some i) (B0y ops listed r)
def A3y (ops:Array Oper):Nat→Array Bool→Option (List Nat)
 | 0,listed=>match Region.ready .any ops listed with
   | []=>some []
   | _=>none
 | f+1,listed=>match Region.ready .any ops listed with
   | []=>some []
   | i::r=>match B0y ops listed (i::r) with
     | some j=>match A3y ops f (listed.setIfInBounds j true) with
       | some l=>some (j::l)
       | none=>none
     | none=>match r with
       | []=>match A3y ops f (listed.setIfInBounds i true) with
         | some l=>some (i::l)
         | none=>none
       | _=>none
def plan (ops:Array Oper):Option (List Nat):=cond (Region.noSelect ops) (A3y ops ops.size (Array.replicate ops.size false)) none
def A9f (st:St R):List Oper→List Nat
 | []=>[]
 | o::r=>match o.op with
   | .store _ x _=>match ev st x with
     | .pt id _=>match get st.hp id with
       | some (.box _ _)=>id::A9f st r
       | _=>A9f st r
     | _=>A9f st r
   | _=>A9f st r
def B4z (d:List Nat) (n0:Nat) (st:St R) (o:Oper):Bool:=(B8x st o).all fun id=>Nat.blt id n0&&!(d.any (Nat.beq id))
def B6u {Z:Type} (P:Program) (O:List (Cal R)) (k:Nat) (ops:List Oper) (d:List Nat) (n0:Nat):List Nat→St R→(St R→Option Z)→Option Z
 | [],st,K=>K st
 | i::rest,st,K=>match nth ops i with
   | some o=>A6h ops o st (fun st'=>cond (!A0j o.op||B4z d n0 st' o) (eop P O k (some d) o st' fun st''=>B6u P O k ops d n0 rest st'' K) none) (fun st'=>B0j o st' fun st''=>B6u P O k ops d n0 rest st'' K)
   | none=>none
def B8k (ops:List Oper):Bool:=ops.all fun o=>match o.op with
 | .load _ _=>false
 | _=>true
def B6t {Z:Type} (P:Program) (O:List (Cal R)) (k:Nat) (ops:List Oper):List Nat→St R→(St R→Option Z)→Option Z
 | [],st,K=>K st
 | i::rest,st,K=>match nth ops i with
   | some o=>A6h ops o st (fun st'=>eop P O k none o st' fun st''=>B6t P O k ops rest st'' K) (fun st'=>B0j o st' fun st''=>B6t P O k ops rest st'' K)
   | none=>none
def B4c {Z:Type} (P:Program) (O:List (Cal R)) (k:Nat) (ops:Array Oper) (draw:Bool) (st:St R) (K:St R→Option Z):Option Z:=
 cond draw (match plan ops with
  | some l=>cond (B8k ops.toList) (B6t P O k ops.toList l st K) (B6u P O k ops.toList (A9f st ops.toList) st.nx l st K)
  | none=>none) (eops P O k ops.toList ops.toList st K)
inductive Ex where
 | normal
 | exit (id:Nat)
 | ret
def idsC:C→List Nat
 | .rw id=>[id]
 | _=>[]
def idsW:W→List Nat
 | .c x=>idsC x
 | .ag xs=>xs.flatMap idsC
def idsV:V→List Nat
 | .w y=>idsW y
 | .tu ws=>ws.flatMap idsW
 | .pt id _=>[id]
 | .ep id _ _ _=>[id]
 | .sub id _ _ _=>[id]
 | _=>[]
def A6r:List Nat→List Nat→List Nat
 | acc,[]=>acc
 | acc,x::r=>A6r (cond (acc.any (Nat.beq x)) acc (acc++[x])) r
def C0m (st:St R) (id:Nat):List Nat:=match get st.hp id with
 | some (.box _ cs)=>cs.flatMap idsC
 | _=>[]
def idx:List Nat→Nat→Nat→Option Nat
 | [],_,_=>none
 | x::r,n,i=>cond (Nat.beq x n) (some i) (idx r n (i+1))
def fixC:C→C
 | .kb b=>.sc (.b b)
 | .bo p i=>.sc (.b (@decide p i))
 | .nb p i=>.sc (.b (!@decide p i))
 | c=>c
def toC (l:List Nat):C→Option C
 | .rw id=>(idx l id 0).map .rw
 | c=>some (fixC c)
def toCs (l:List Nat):List C→Option (List C)
 | []=>some []
 | c::r=>match toC l c,toCs l r with
   | some c,some r=>some (c::r)
   | _,_=>none
def toW (l:List Nat):W→Option W
 | .c x=>(toC l x).map .c
 | .ag xs=>(toCs l xs).map .ag
def toV (l:List Nat):V→Option V
 | .w y=>(toW l y).map .w
 | .pt id off=>(idx l id 0).map fun j=>.pt j off
 | .no=>some .no
 | _=>none
def toTm (l:List Nat) (st:St R):List Nat→Option (List (Nat×V))
 | []=>some []
 | t::r=>match toV l (st.v t),toTm l st r with
   | some v,some tm=>some ((t,v)::tm)
   | _,_=>none
def C3j (l:List Nat):Blk R→Option (Blk R)
 | .rows k r=>some (.rows k r)
 | .box t cs=>(toCs l cs).map (.box t)
 | .dead=>none
def toHp (l:List Nat) (st:St R):List Nat→Nat→Option (List (Nat×Blk R))
 | [],_=>some []
 | id::r,n=>match get st.hp id with
   | some b=>match C3j l b,toHp l st r (n+1) with
     | some b',some hp=>some ((n,b')::hp)
     | _,_=>none
   | none=>none
def B0x:List Nat→Nat→Nat→Bool
 | _,_,0=>true
 | [],_,_+1=>false
 | x::r,i,n+1=>Nat.beq x i&&B0x r (i+1) n
def named (l:List Nat) (na:Nat):Bool:=B3y l&&B0x l 0 na
def C7y (live:List Nat) (st:St R):Option (St R):=
 let l0:=live.foldl (fun l t=>A6r l (idsV (st.v t))) (List.range st.na)
 let l:=l0.foldl (fun l id=>A6r l (C0m st id)) l0
 cond (named l st.na) (match toTm l st live,toHp l st l 0 with
  | some tm,some hp=>some { nt:=st.nt,na:=st.na,nx:=l.length,tm:=tm,hp:=hp }
  | _,_=>none) none
def B4p (P:Program) (st:St R):ResultVar→Option W
 | .tmp t=>match st.v t with
   | .w y=>some y
   | _=>none
 | .cell t ty=>match st.v t with
   | .pt id 0=>match get st.hp id with
     | some (.box t' cs)=>cond (V2 P ty&&Nat.beq ty t'&&Nat.beq (P.cellsOf ty) cs.length) (some (.ag cs)) none
     | _=>none
   | _=>none
def A0p (P:Program) (st:St R):List ResultVar→Option (List W)
 | []=>some []
 | r::rs=>match B4p P st r,A0p P st rs with
   | some y,some ys=>some (y::ys)
   | _,_=>none
def toWs (l:List Nat):List W→Option (List W)
 | []=>some []
 | y::r=>match toW l y,toWs l r with
   | some y,some r=>some (y::r)
   | _,_=>none
def B1n:List (Nat×Blk R)→Nat→Bool
 | [],_=>true
 | (i,b)::r,na=>(Nat.blt i na||match b with
   | .rows 2 _=>true
   | _=>false)&&B1n r na
def A4i:List (Nat×Blk R)→List (Blk R)
 | []=>[]
 | (_,b)::r=>b::A4i r
def B5p (P:Program) (rs:List ResultVar) (st:St R):Option (Out R):=
 match A0p P st rs with
 | some ys=>
   let l1:=(List.range st.na).foldl (fun l id=>A6r l (C0m st id)) (List.range st.na)
   let l:=ys.foldl (fun l y=>A6r l (idsW y)) l1
   match toWs l ys,toHp l st l 0 with
   | some ws,some hp=>cond (named l st.na&&B1n hp st.na) (some { res:=ws,hp:=A4i hp }) none
   | _,_=>none
 | none=>none
structure Cut (R:Type) where
 p:List Bool
 live:List Nat
 f:Nat→St R→Option (Out R)
def eqP:List Bool→List Bool→Bool
 | [],[]=>true
 | x::a,y::b=>x == y&&eqP a b
 | _,_=>false
def A9h:List (Cut R)→List Bool→Option (Cut R)
 | [],_=>none
 | c::r,p=>cond (eqP c.p p) (some c) (A9h r p)
def stop (k:Nat) (c:Cut R) (st:St R):Option (Out R):=match C7y c.live st with
 | some st'=>c.f k st'
 | none=>none
def A0x (P:Program) (O:List (Cal R)) (cs:List (Cut R)) (k:Nat):Code→List Bool→St R→(Ex→St R→Option (Out R))→Option (Out R)
 | .skip,_,st,K=>K .normal st
 | .region _ ops draw,_,st,K=>B4c P O k ops draw st fun st'=>K .normal st'
 | .seq a b,p,st,K=>match A9h cs p with
   | some c=>stop k c st
   | none=>A0x P O cs k a (false::p) st fun e st'=>match e with
     | .normal=>A0x P O cs k b (true::p) st' K
     | e=>K e st'
 | .cond c a b,p,st,K=>match c with
   | .tmp t=>match A9h cs p with
     | some c=>stop k c st
     | none=>part st t fun x st'=>cond x (A0x P O cs k a (false::p) st' K) (A0x P O cs k b (true::p) st' K)
   | _=>none
 | .block id a,p,st,K=>A0x P O cs k a (false::p) st fun e st'=>match e with
   | .exit j=>cond (Nat.beq j id) (K .normal st') (K (.exit j) st')
   | e=>K e st'
 | .loop _,p,st,_=>match A9h cs p with
   | some c=>stop k c st
   | none=>none
 | .exit id,_,st,K=>K (.exit id) st
 | .ret,_,st,K=>K .ret st
 | _,_,_,_=>none
def sub (c:Code):List Bool→Option Code
 | []=>some c
 | d::p=>match sub c p with
   | some (.seq a b)=>some (cond d b a)
   | some (.cond _ a b)=>some (cond d b a)
   | some (.block _ a)=>some a
   | some (.loop a)=>some a
   | _=>none
def kr (P:Program) (O:List (Cal R)) (cs:List (Cut R)) (k:Nat) (c:Code) (K0:Ex→St R→Option (Out R)):List Bool→Ex→St R→Option (Out R)
 | []=>K0
 | d::p=>match sub c p with
   | some (.seq _ b)=>cond d (kr P O cs k c K0 p) fun e st=>match e with
     | .normal=>A0x P O cs k b (true::p) st (kr P O cs k c K0 p)
     | e=>kr P O cs k c K0 p e st
   | some (.cond _ _ _)=>kr P O cs k c K0 p
   | some (.block id _)=>fun e st=>match e with
     | .exit j=>cond (Nat.beq j id) (kr P O cs k c K0 p .normal st) (kr P O cs k c K0 p (.exit j) st)
     | e=>kr P O cs k c K0 p e st
   | some (.loop _)=>fun e st=>match e with
     | .normal=>match A9h cs p with
       | some c=>stop k c st
       | none=>none
     | e=>kr P O cs k c K0 p e st
   | _=>fun _ _=>none
def kEnd (P:Program) (rs:List ResultVar) (e:Ex) (st:St R):Option (Out R):=match e with
 | .exit _=>none
 | _=>B5p P rs st
def seg (P:Program) (O:List (Cal R)) (cs:List (Cut R)) (k:Nat) (c:Code) (K0:Ex→St R→Option (Out R)) (p:List Bool) (st:St R):Option (Out R):=
 match sub c p with
 | some (.loop a)=>A0x P O cs k a (false::p) st (kr P O cs k c K0 (false::p))
 | some (.cond (.tmp t) a b)=>part st t fun x st'=>cond x (A0x P O cs k a (false::p) st' (kr P O cs k c K0 p)) (A0x P O cs k b (true::p) st' (kr P O cs k c K0 p))
 | some (.seq a b)=>A0x P O cs k a (false::p) st fun e st'=>match e with
   | .normal=>A0x P O cs k b (true::p) st' (kr P O cs k c K0 p)
   | e=>kr P O cs k c K0 p e st'
 | _=>none
def A3v {α:Type}:List α→Nat→List (Nat×α)
 | [],_=>[]
 | x::r,n=>(n,x)::A3v r (n+1)
def start (nt:Nat) (args:List V) (hp:List (Blk R)):St R:={ nt:=nt,na:=hp.length,nx:=hp.length,tm:=A3v args 0,hp:=A3v hp 0 }
def enter (P:Program) (O:List (Cal R)) (cs:List (Cut R)) (k:Nat) (fn:Func) (c:Code) (args:List V) (hp:List (Blk R)):Option (Out R):=
 cond (Nat.ble args.length fn.ntmps) (A0x P O cs k c [] (start fn.ntmps args hp) (kEnd P fn.results.toList)) none
end
end Go.Proofs.YtmfgajbkcnlkcaaGreat.AI
namespace Go.Proofs.YtmfgajbkcnlkcaaGreat.AI
set_option linter.all false
open Go Go.RowKit
section
variable {R:Type} [RowT R]
def flat (r:R):List Value:=(RowT.cel r).flatten.map Sc.v
class RowL (P:Program) (R:Type) [RowT R]:Prop where
 len_eq:∀ r:R,RowT.len r=(RowT.cel r).length
 elt_eq:∀ (r:R) (i:Nat),i<RowT.len r→(RowT.cel r)[i]? = some (RowT.elt r i)
 nil_eq:∀ (t:TypeId) (r:R),RowT.nil t=some r→RowT.cel r=[]∧RowT.ty r=t
 zer_eq:∀ (t:TypeId) (n:Nat) (r:R),RowT.zer t n=some r→RowT.ty r=t∧∃ i z cs,P.info? t=some i∧i.zero=some z∧z.cells.toList=List.map Sc.v cs∧RowT.cel r=List.replicate n cs
 snoc_eq:∀ (r r':R) (c:List Sc),RowT.snoc r c=some r'→RowT.cel r'=RowT.cel r++[c]∧RowT.ty r'=RowT.ty r
 app_eq:∀ (r s r':R),RowT.app r s=some r'→RowT.cel r'=RowT.cel r++RowT.cel s∧RowT.ty r'=RowT.ty r∧RowT.ty s=RowT.ty r
 setK_eq:∀ (r:R) (i:Nat) (c:List Sc) (Z:Type) (K:R→Option Z) (z:Z),RowT.setK r i c Z K=some z→∃ r',RowT.set r i c=some r'∧K r'=some z
 set_eq:∀ (r r':R) (i:Nat) (c:List Sc),RowT.set r i c=some r'→RowT.cel r'=(RowT.cel r).set i c∧RowT.ty r'=RowT.ty r
 sub_eq:∀ (r:R) (lo n:Nat),RowT.cel (RowT.sub r lo n)=((RowT.cel r).drop lo).take n∧RowT.ty (RowT.sub r lo n)=RowT.ty r
 info:∀ r:R,∃ i z,P.info? (RowT.ty r)=some i∧i.zero=some z∧z.cells.size=i.size∧0<i.size∧0<i.bytes∧∀ c∈RowT.cel r,c.length=i.size
def conc (g:Nat→Value):C→Value
 | .sc v=>v.v
 | .kb b=>.bool b
 | .bo p i=>.bool (@decide p i)
 | .nb p i=>.bool (!@decide p i)
 | .rw id=>g id
def O4 (g:Nat→Value):W→Value
 | .c x=>conc g x
 | .ag cs=>.agg (cs.map (conc g)).toArray
def H7 (g:Nat→Value):V→Value
 | .w y=>O4 g y
 | .tu ws=>.tuple (ws.map (O4 g)).toArray
 | .pt id off=>match g id with
   | .pointer (some a)=>.pointer (some ⟨a.block,off,none⟩)
   | v=>v
 | .ep id sz i off=>match g id with
   | .slice (some a) _ _=>.pointer (some (a.add (i*sz+off)))
   | v=>v
 | .sub id sz lo n=>match g id with
   | .slice A _ c=>.slice (if c=lo then A else A.map (·.add (lo*sz))) n (c-lo)
   | v=>v
 | .nl=>.slice none 0 0
 | .un=>undef
 | .no=>undef
def T9:Value→Option Nat
 | .slice (some a) _ _=>some a.block
 | .pointer (some a)=>some a.block
 | _=>none
def S3 (P:Program) (g:Nat→Value) (w:World) (base:Nat) (id:Nat):Blk R→Prop
 | .rows 0 r=>∃ A cap,g id = .slice A (RowT.len r) cap∧RowT.len r≤cap∧RowT.len r≤maxLen∧∀ j u,(flat r)[j]? = some u→∃ ad,A=some ad∧w.cell? (ad.add j)=some u
 | .rows (k+1) r=>w.ownsRow (if k=1 then base else 0) (RowT.ty r) (P.cellsOf (RowT.ty r)) (g id) (RowT.len r) (flat r)
 | .box t cs=>∃ b,g id = .pointer (some ⟨b,0,none⟩)∧w.heap[b]? = some (.cells (cs.map (conc g)).toArray t (0,0))∧∀ c∈cs,(conc g c).oneCell'=true
 | .dead=>True
def HasB (g:Nat→Value) (id:Nat) (n:Nat):Blk R→Prop
 | .rows 0 r=>T9 (g id)=some n∧0<RowT.len r
 | .dead=>False
 | _=>T9 (g id)=some n
def Blk.mut:Blk R→Prop
 | .rows 0 _=>False
 | .dead=>False
 | _=>True
def idsB:Blk R→List Nat
 | .box _ cs=>cs.flatMap idsC
 | _=>[]
structure Fr (w0:World) (L:Nat→Prop) (w:World):Prop where
 os:w.os=w0.os
 tape:w.tape=w0.tape
 output:w.output=w0.output
 size:w0.heap.size≤w.heap.size
 block:∀ k,k<w0.heap.size→¬ L k→w.heap[k]? = w0.heap[k]?
structure HOK (P:Program) (w0:World) (L:Nat→Prop) (nx:Nat) (hp:List (Nat×Blk R)) (g:Nat→Value) (w:World):Prop where
 idB:∀ id b,get hp id=some b→∀ j∈idsB b,j<nx
 idH:∀ id b,get hp id=some b→id<nx
 blk:∀ id b,get hp id=some b→S3 P g w w0.heap.size id b
 sep:∀ id b id' b' n,get hp id=some b→get hp id'=some b'→id≠id'→b.mut→HasB g id n b→¬ HasB g id' n b'
 mutL:∀ id b n,get hp id=some b→b.mut→HasB g id n b→w0.heap.size≤n∨L n
 one:∀ id,id<nx→(g id).oneCell'=true
 frame:Fr w0 L w
theorem B0u {α:Type} (k:Nat) (v:α) (r:List (Nat×α)) (n:Nat):get ((k,v)::r) n=if k=n then some v else get r n:=by
 simp only [get]
 by_cases h:k=n
 · subst h;simp
 · have:Nat.beq k n=false:=by
    cases hb:Nat.beq k n
    · rfl
    · exact absurd (Nat.eq_of_beq_eq_true hb) h
   rw [if_neg h,this];rfl
def EpOK (P:Program) (hp:List (Nat×Blk R)):V→Prop
 | .ep id sz i _=>∀ k r,get hp id=some (.rows k r)→i<RowT.len r∧sz=P.cellsOf (RowT.ty r)
 | .sub id sz lo n=>∀ k r,get hp id=some (.rows k r)→lo+n≤RowT.len r∧sz=P.cellsOf (RowT.ty r)
 | _=>True
def S4:Blk R→Blk R→Prop
 | .rows k r,.rows k' r'=>k=k'∧RowT.ty r=RowT.ty r'
 | .box t _,.box t' _=>t=t'
 | _,_=>False
theorem S4.refl {b:Blk R} (h:b≠.dead):S4 b b:=by cases b<;>first | exact ⟨rfl,rfl⟩ | rfl | exact absurd rfl h
theorem S4.trans {a b c:Blk R} (h:S4 a b) (k:S4 b c):S4 a c:=by
 cases a<;>cases b<;>first | exact h.elim | skip
 · cases c<;>first | exact k.elim | exact ⟨h.1.trans k.1,h.2.trans k.2⟩
 · cases c<;>first | exact k.elim | exact Eq.trans h k
def Blk.handed:Blk R→Prop
 | .rows 0 _=>True
 | .rows 1 _=>True
 | .box _ _=>True
 | _=>False
theorem Blk.handed.dead {b:Blk R} (h:b.handed):b≠.dead:=by rintro rfl;exact h
theorem Blk.handed.same {b c:Blk R} (h:b.handed) (hk:S4 b c):c.handed:=by
 cases b with
 | rows k r=>
   cases c with
   | rows k' r'=>
     obtain ⟨rfl,_⟩:=hk
     match k,h with
     | 0,_=>trivial
     | 1,_=>trivial
   | box _ _=>exact hk.elim
   | dead=>exact hk.elim
 | box t cs=>cases c<;>first | exact hk.elim | trivial
 | dead=>exact h.elim
def Same (nx:Nat) (hp hp':List (Nat×Blk R)):Prop:=(∀ id k r,id<nx→get hp' id=some (.rows k r)→∃ k0 r0,get hp id=some (.rows k0 r0)∧RowT.len r=RowT.len r0∧RowT.ty r=RowT.ty r0) ∧
 ∀ id b,id<nx→get hp id=some b→b.handed→∃ b',get hp' id=some b'∧S4 b b'
theorem EpOK.same {P:Program} {nx:Nat} {hp hp':List (Nat×Blk R)} {v:V} (h:EpOK P hp v) (hs:Same nx hp hp') (hi:∀ id∈idsV v,id<nx):EpOK P hp' v:=by
 cases v<;>try trivial
 all_goals
  rename_i id sz i off
  intro k r hr
  obtain ⟨k0,r0,h1,h2,h3⟩:=hs.1 id k r (hi id (by simp [idsV])) hr
  rw [h2,h3];exact h k0 r0 h1
theorem Same.refl (nx:Nat) (hp:List (Nat×Blk R)):Same nx hp hp:=⟨fun _ k r _ h=>⟨k,r,h,rfl,rfl⟩,fun _ b _ h hh=>⟨b,h,S4.refl hh.dead⟩⟩
theorem Same.trans {nx nx':Nat} {h0 h1 h2:List (Nat×Blk R)} (a:Same nx h0 h1) (b:Same nx' h1 h2) (hn:nx≤nx'):Same nx h0 h2:=⟨fun id k r hi hr=>by
 obtain ⟨k1,r1,e1,e2,e3⟩:=b.1 id k r (by omega) hr
 obtain ⟨k0,r0,f1,f2,f3⟩:=a.1 id k1 r1 hi e1
 exact ⟨k0,r0,f1,e2.trans f2,e3.trans f3⟩,fun id c hi hc hh=>by
 obtain ⟨c1,e1,e2⟩:=a.2 id c hi hc hh
 obtain ⟨c2,f1,f2⟩:=b.2 id c1 (by omega) e1 (hh.same e2)
 exact ⟨c2,f1,e2.trans f2⟩⟩
structure Inv (P:Program) (w0:World) (L:Nat→Prop) (g0:Nat→Value) (hp0:List (Blk R)) (st:St R) (g:Nat→Value) (a:Act) (w:World):Prop where
 defers:a.defers=[]
 size:a.tmps.size=st.nt
 tm:∀ t v,get st.tm t=some v→v≠.no→a.tmps[t]? = some (H7 g v)
 idT:∀ t v,get st.tm t=some v→∀ id∈idsV v,id<st.nx
 ep:∀ t v,get st.tm t=some v→EpOK P st.hp v
 keep:∀ (i:Nat) b0,hp0[i]? = some b0→∃ b,get st.hp i=some b∧S4 b0 b∧b.handed
 args:∀ id,id<st.na→g id=g0 id
 na:st.na≤st.nx
 hpna:hp0.length=st.na
 heap:HOK P w0 L st.nx st.hp g w
theorem Same.cons {nx:Nat} {hp:List (Nat×Blk R)} {id:Nat} {b:Blk R} (h:nx≤id∨(∃ t cs cs',b = .box t cs∧get hp id=some (.box t cs'))∨(b = .dead∧∃ r,get hp id=some (.rows 2 r))∨∃ k r r0,b = .rows k r∧get hp id=some (.rows k r0)∧RowT.len r=RowT.len r0∧RowT.ty r=RowT.ty r0):Same nx hp ((id,b)::hp):=by
 constructor
 · intro i k r hi hr
   rw [B0u] at hr
   split at hr
   · rename_i e;subst e
     simp only [Option.some.injEq] at hr;subst hr
     rcases h with h | ⟨t,cs,cs',h,_⟩ | ⟨h,_⟩ | ⟨k1,r1,r0,e1,e2,e3,e4⟩
     · omega
     · simp at h
     · simp at h
     · injection e1 with e5 e6;subst e6;exact ⟨_,r0,e2,e3,e4⟩
   · exact ⟨k,r,hr,rfl,rfl⟩
 · intro i c hi hc hh
   rw [B0u]
   split
   · rename_i e;subst e
     refine ⟨b,rfl,?_⟩
     rcases h with h | ⟨t,cs,cs',rfl,h⟩ | ⟨_,r,h⟩ | ⟨k1,r1,r0,rfl,e2,e3,e4⟩
     · omega
     · rw [hc] at h;injection h with h;subst h;exact rfl
     · rw [hc] at h;injection h with h;subst h;exact hh.elim
     · rw [hc] at e2;injection e2 with e2;subst e2;exact ⟨rfl,e4.symm⟩
   · exact ⟨c,hc,S4.refl hh.dead⟩
theorem O5 {α:Type} (k:Nat) (v:α) (r:List (Nat×α)) (n:Nat):get ((k,v)::r) n=if k=n then some v else get r n:=by
 simp only [get]
 by_cases h:k=n
 · subst h;simp
 · have:Nat.beq k n=false:=by
    cases hb:Nat.beq k n
    · rfl
    · exact absurd (Nat.eq_of_beq_eq_true hb) h
   rw [if_neg h,this];rfl
theorem A1y {g g':Nat→Value} {c:C} (h:∀ id∈idsC c,g' id=g id):conc g' c=conc g c:=by
 cases c<;>simp only [conc]
 rename_i id;exact h id (by simp [idsC])
theorem A2q {g g':Nat→Value} {cs:List C} (h:∀ id∈cs.flatMap idsC,g' id=g id):cs.map (conc g')=cs.map (conc g):=
 List.map_congr_left fun c hc=>A1y fun id hid=>h id (List.mem_flatMap.2 ⟨c,hc,hid⟩)
theorem A3j {g g':Nat→Value} {y:W} (h:∀ id∈idsW y,g' id=g id):O4 g' y=O4 g y:=by
 cases y with
 | c x=>exact A1y h
 | ag cs=>simp only [O4];rw [A2q h]
theorem B4g {g g':Nat→Value} {v:V} (h:∀ id∈idsV v,g' id=g id):H7 g' v=H7 g v:=by
 cases v with
 | w y=>exact A3j h
 | tu ws=>simp only [H7];rw [List.map_congr_left fun y hy=>A3j fun id hid=>h id (List.mem_flatMap.2 ⟨y,hy,hid⟩)]
 | pt id off=>simp only [H7];rw [h id (by simp [idsV])]
 | ep id sz i off=>simp only [H7];rw [h id (by simp [idsV])]
 | sub id sz lo n=>simp only [H7];rw [h id (by simp [idsV])]
 | nl=>rfl
 | un=>rfl
 | no=>rfl
theorem A7q {w:World} {n:Nat} {o:Obj} (h:w.heap[n]? = some o):n<w.heap.size:=by
 rcases Nat.lt_or_ge n w.heap.size with h1 | h1
 · exact h1
 · rw [Array.getElem?_eq_none h1] at h;cases h
theorem Z3 {P:Program} [RowL P R] (r:R):(flat r).length=RowT.len r*P.cellsOf (RowT.ty r):=by
 obtain ⟨i,z,hi,_,_,_,_,hc⟩:=RowL.info (P:=P) r
 have:P.cellsOf (RowT.ty r)=i.size:=by simp [Program.cellsOf,hi]
 rw [this,RowL.len_eq (P:=P),flat,List.length_map,List.length_flatten]
 generalize RowT.cel r=l at hc
 induction l with
 | nil=>simp
 | cons c l ih=>
   rw [List.map_cons,List.sum_cons,List.length_cons,ih (fun c' h=>hc c' (List.mem_cons_of_mem _ h)),hc c (List.mem_cons_self ..),Nat.add_mul,Nat.one_mul,Nat.add_comm]
theorem B5m {P:Program} [RowL P R] {r:R} {j:Nat} {u:Value} (h:(flat r)[j]? = some u):0<RowT.len r:=by
 rcases Nat.eq_zero_or_pos (RowT.len r) with h0 | h0
 · have:=Z3 (P:=P) r
   rw [h0,Nat.zero_mul] at this
   rw [List.eq_nil_of_length_eq_zero this] at h
   simp at h
 · exact h0
theorem S3.lt {P:Program} [RowL P R] {g:Nat→Value} {w:World} {base id n:Nat} {b:Blk R} (h:S3 P g w base id b) (hb:HasB g id n b):n<w.heap.size:=by
 cases b with
 | rows k r=>
   cases k with
   | zero=>
     obtain ⟨A,cap,hg,_,_,hc⟩:=h
     obtain ⟨hb1,hp⟩:=hb
     have hl:=Z3 (P:=P) r
     obtain ⟨i,z,hi,_,_,hs,_⟩:=RowL.info (P:=P) r
     have hsz:P.cellsOf (RowT.ty r)=i.size:=by simp [Program.cellsOf,hi]
     have h0:0<(flat r).length:=by rw [hl,hsz];exact Nat.mul_pos hp hs
     obtain ⟨ad,hA,hcell⟩:=hc 0 _ (List.getElem?_eq_getElem h0)
     have:=World.block_lt_of_cell? w _ hcell
     rw [hg,hA] at hb1
     simp only [T9,Option.some.injEq] at hb1
     rw [← hb1]
     simpa [Addr.add] using this
   | succ k=>
     have h1:T9 (g id)=some n:=hb
     rcases h.2 with ⟨hv,_⟩ | ⟨b,cap,cur,hv,_,hh,_⟩
     · rw [hv] at h1;simp [T9] at h1
     · rw [hv] at h1;simp only [T9,Option.some.injEq] at h1;rw [← h1];exact A7q hh
 | box t cs=>
   obtain ⟨b,hv,hh,_⟩:=h
   have h1:T9 (g id)=some n:=hb
   rw [hv] at h1;simp only [T9,Option.some.injEq] at h1;rw [← h1];exact A7q hh
 | dead=>exact hb.elim
theorem S3.move {P:Program} [RowL P R] {g:Nat→Value} {w w':World} {base id:Nat} {b:Blk R} (h:S3 P g w base id b) (hm:∀ n,HasB g id n b→w'.heap[n]? = w.heap[n]?):S3 P g w' base id b:=by
 cases b with
 | rows k r=>
   cases k with
   | zero=>
     obtain ⟨A,cap,hg,h1,h2,hc⟩:=h
     refine ⟨A,cap,hg,h1,h2,fun j u hu=>?_⟩
     obtain ⟨ad,hA,hcell⟩:=hc j u hu
     refine ⟨ad,hA,?_⟩
     have hn:=hm ad.block ⟨by rw [hg,hA];rfl,B5m (P:=P) hu⟩
     have hbk:(ad.add j).block=ad.block:=by unfold Addr.add;split<;>rfl
     rw [← hcell];exact World.cell?_of_block (by rw [hbk];exact hn)
   | succ k=>
     obtain ⟨h1,h2⟩:=h
     refine ⟨h1,?_⟩
     rcases h2 with h2 | ⟨b,cap,cur,hv,hb,hh,h3⟩
     · exact .inl h2
     · exact .inr ⟨b,cap,cur,hv,hb,(hm b (by show T9 (g id)=some b;rw [hv];rfl)).trans hh,h3⟩
 | box t cs=>
   obtain ⟨b,hv,hh,h1⟩:=h
   exact ⟨b,hv,(hm b (by show T9 (g id)=some b;rw [hv];rfl)).trans hh,h1⟩
 | dead=>trivial
theorem S3.name {P:Program} {g g':Nat→Value} {w:World} {base id:Nat} {b:Blk R} (h:S3 P g w base id b) (h0:g' id=g id) (hm:∀ j∈idsB b,g' j=g j):S3 P g' w base id b:=by
 cases b with
 | rows k r=>cases k<;>simpa only [S3,h0] using h
 | box t cs=>
   obtain ⟨b,hv,hh,h1⟩:=h
   refine ⟨b,h0.trans hv,by rw [A2q hm];exact hh,fun c hc=>?_⟩
   rw [A1y fun id hid=>hm id (List.mem_flatMap.2 ⟨c,hc,hid⟩)];exact h1 c hc
 | dead=>trivial
theorem HasB.name {g g':Nat→Value} {id n:Nat} {b:Blk R} (h0:g' id=g id):HasB g' id n b↔HasB g id n b:=by
 cases b with
 | rows k r=>cases k<;>simp only [HasB,h0]
 | box t cs=>simp only [HasB,h0]
 | dead=>exact Iff.rfl
theorem Fr.grown {w0 w w':World} {L:Nat→Prop} {row:Option Nat} (h:Fr w0 L w) (hg:w.grownBy w' row) (hr:∀ n,row=some n→w0.heap.size≤n∨L n):Fr w0 L w':=
 ⟨hg.os.trans h.os,hg.tape.trans h.tape,hg.output.trans h.output,Nat.le_trans h.size hg.size,fun k hk hl=>
   (hg.block k (Nat.lt_of_lt_of_le hk h.size) (fun e=>by rcases hr k e.symm with h1 | h1;exact absurd hk (Nat.not_lt.2 h1);exact hl h1)).trans (h.block k hk hl)⟩
def upd (g:Nat→Value) (n:Nat) (v:Value) (id:Nat):Value:=if id=n then v else g id
theorem U0 (g:Nat→Value) (n:Nat) (v:Value):upd g n v n=v:=by simp [upd]
theorem V3 (g:Nat→Value) {n id:Nat} (v:Value) (h:id≠n):upd g n v id=g id:=by simp [upd,h]
section
variable {P:Program} [RowL P R] {w0:World} {L:Nat→Prop} {g0:Nat→Value} {hp0:List (Blk R)} {nx:Nat} {hp:List (Nat×Blk R)} {g:Nat→Value} {w:World}
theorem HOK.lt (h:HOK P w0 L nx hp g w) {id n:Nat} {b:Blk R} (hb:get hp id=some b) (hn:HasB g id n b):n<w.heap.size:=(h.blk id b hb).lt hn
theorem HOK.drop (h:HOK P w0 L nx hp g w) {id:Nat} {b0:Blk R} (hid:get hp id=some b0):HOK P w0 L nx ((id,.dead)::hp) g w:=by
 have hx:∀ i b,get ((id,.dead)::hp) i=some b→b = .dead∧i=id∨get hp i=some b:=by
  intro i b hb
  rw [O5] at hb
  split at hb
  · rename_i e;simp only [Option.some.injEq] at hb;exact .inl ⟨hb.symm,e.symm⟩
  · exact .inr hb
 refine ⟨fun i b hb j hj=>?_,fun i b hb=>?_,fun i b hb=>?_,fun i b i' b' n hb hb' hne hm hn=>?_,fun i b n hb hm hn=>?_,h.one,h.frame⟩
 · rcases hx i b hb with ⟨rfl,_⟩ | h1
   · simp [idsB] at hj
   · exact h.idB i b h1 j hj
 · rcases hx i b hb with ⟨_,rfl⟩ | h1
   · exact h.idH _ _ hid
   · exact h.idH i b h1
 · rcases hx i b hb with ⟨rfl,_⟩ | h1
   · trivial
   · exact h.blk i b h1
 · rcases hx i b hb with ⟨rfl,_⟩ | h1
   · exact hn.elim
   · rcases hx i' b' hb' with ⟨rfl,_⟩ | h2
     · exact fun h=>h
     · exact h.sep i b i' b' n h1 h2 hne hm hn
 · rcases hx i b hb with ⟨rfl,_⟩ | h1
   · exact hn.elim
   · exact h.mutL i b n h1 hm hn
theorem HOK.add (h:HOK P w0 L nx hp g w) {b:Blk R} {v:Value} {w':World} {row:Option Nat} (hg:w.grownBy w' row)
 (hrow:∀ n,row=some n→(w0.heap.size≤n∨L n)∧∀ id b',get hp id=some b'→¬ HasB g id n b') (hids:∀ j∈idsB b,j<nx)
 (hb:S3 P (upd g nx v) w' w0.heap.size nx b) (hn:∀ n,HasB (upd g nx v) nx n b→w.heap.size≤n∨row=some n) (ho:v.oneCell'=true):HOK P w0 L (nx+1) ((nx,b)::hp) (upd g nx v) w':=by
 have hx:∀ i c,get ((nx,b)::hp) i=some c→c=b∧i=nx∨get hp i=some c∧i<nx:=by
  intro i c hc
  rw [O5] at hc
  split at hc
  · rename_i e;simp only [Option.some.injEq] at hc;exact .inl ⟨hc.symm,e.symm⟩
  · exact .inr ⟨hc,h.idH i c hc⟩
 have hu:∀ i,i<nx→upd g nx v i=g i:=fun i hi=>V3 g v (by omega)
 have hold:∀ i c n,get hp i=some c→i<nx→HasB (upd g nx v) i n c→n<w.heap.size∧row≠some n:=by
  intro i c n hc hi hh
  rw [HasB.name (hu i hi)] at hh
  exact ⟨h.lt hc hh,fun e=>(hrow n e).2 i c hc hh⟩
 refine ⟨fun i c hc j hj=>?_,fun i c hc=>?_,fun i c hc=>?_,fun i c i' c' n hc hc' hne hm hh=>?_,fun i c n hc hm hh=>?_,fun i hi=>?_,h.frame.grown hg fun n e=>(hrow n e).1⟩
 · rcases hx i c hc with ⟨rfl,_⟩ | ⟨h1,_⟩
   · have:=hids j hj;omega
   · have:=h.idB i c h1 j hj;omega
 · rcases hx i c hc with ⟨_,rfl⟩ | ⟨_,h1⟩<;>omega
 · rcases hx i c hc with ⟨rfl,rfl⟩ | ⟨h1,h2⟩
   · exact hb
   · refine ((h.blk i c h1).name (hu i h2) fun j hj=>hu j (h.idB i c h1 j hj)).move fun n hh=>?_
     obtain ⟨h3,h4⟩:=hold i c n h1 h2 hh
     exact hg.block n h3 fun e=>h4 e.symm
 · rcases hx i c hc with ⟨rfl,rfl⟩ | ⟨h1,h2⟩
   · rcases hx i' c' hc' with ⟨rfl,rfl⟩ | ⟨h3,h4⟩
     · exact absurd rfl hne
     · intro hh'
       obtain ⟨h5,h6⟩:=hold i' c' n h3 h4 hh'
       rcases hn n hh with h7 | h7
       · omega
       · exact h6 h7
   · rcases hx i' c' hc' with ⟨rfl,rfl⟩ | ⟨h3,h4⟩
     · intro hh'
       obtain ⟨h5,h6⟩:=hold i c n h1 h2 hh
       rcases hn n hh' with h7 | h7
       · omega
       · exact h6 h7
     · rw [HasB.name (hu i h2)] at hh
       rw [HasB.name (hu i' h4)]
       exact h.sep i c i' c' n h1 h3 hne hm hh
 · rcases hx i c hc with ⟨rfl,rfl⟩ | ⟨h1,h2⟩
   · rcases hn n hh with h3 | h3
     · exact .inl (Nat.le_trans h.frame.size h3)
     · exact (hrow n h3).1
   · rw [HasB.name (hu i h2)] at hh
     exact h.mutL i c n h1 hm hh
 · rcases Nat.lt_or_ge i nx with h1 | h1
   · rw [hu i h1];exact h.one i h1
   · rw [show i=nx by omega,U0];exact ho
theorem HOK.turn (h:HOK P w0 L nx hp g w) {id:Nat} {b b':Blk R} {w':World} (hid:get hp id=some b) (hm:b.mut) (hm':b'.mut) (hg:w.grownBy w' (T9 (g id)))
 (hids:∀ j∈idsB b',j<nx) (hb:S3 P g w' w0.heap.size id b') (hh:∀ n,HasB g id n b'↔HasB g id n b) (hr:∀ n,T9 (g id)=some n→HasB g id n b):HOK P w0 L nx ((id,b')::hp) g w':=by
 have hx:∀ i c,get ((id,b')::hp) i=some c→c=b'∧i=id∨get hp i=some c∧i≠id:=by
  intro i c hc
  rw [O5] at hc
  split at hc
  · rename_i e;simp only [Option.some.injEq] at hc;exact .inl ⟨hc.symm,e.symm⟩
  · rename_i e;exact .inr ⟨hc,fun e'=>e e'.symm⟩
 refine ⟨fun i c hc j hj=>?_,fun i c hc=>?_,fun i c hc=>?_,fun i c i' c' n hc hc' hne hmc hn=>?_,fun i c n hc hmc hn=>?_,h.one,h.frame.grown hg fun n e=>h.mutL id b n hid hm (hr n e)⟩
 · rcases hx i c hc with ⟨rfl,_⟩ | ⟨h1,_⟩
   · exact hids j hj
   · exact h.idB i c h1 j hj
 · rcases hx i c hc with ⟨_,rfl⟩ | ⟨h1,_⟩
   · exact h.idH _ _ hid
   · exact h.idH i c h1
 · rcases hx i c hc with ⟨rfl,rfl⟩ | ⟨h1,h2⟩
   · exact hb
   · exact (h.blk i c h1).move fun n hn=>hg.block n (h.lt h1 hn) fun e=>h.sep id b i c n hid h1 (fun e=>h2 e.symm) hm (hr n e.symm) hn
 · rcases hx i c hc with ⟨rfl,rfl⟩ | ⟨h1,h2⟩
   · rcases hx i' c' hc' with ⟨rfl,rfl⟩ | ⟨h3,h4⟩
     · exact absurd rfl hne
     · exact h.sep i b i' c' n hid h3 hne hm ((hh n).1 hn)
   · rcases hx i' c' hc' with ⟨rfl,rfl⟩ | ⟨h3,h4⟩
     · intro hn'
       exact h.sep i c i' b n h1 hid hne hmc hn ((hh n).1 hn')
     · exact h.sep i c i' c' n h1 h3 hne hmc hn
 · rcases hx i c hc with ⟨rfl,rfl⟩ | ⟨h1,h2⟩
   · exact h.mutL i b n hid hm ((hh n).1 hn)
   · exact h.mutL i c n h1 hmc hn
theorem HOK.grow (h:HOK P w0 L nx hp g w) {w':World} (hg:w.grownBy w' none):HOK P w0 L nx hp g w':=
 ⟨h.idB,h.idH,fun i c hc=>(h.blk i c hc).move fun n hn=>hg.block n (h.lt hc hn) (by simp),h.sep,h.mutL,h.one,h.frame.grown hg (by simp)⟩
variable {st st':St R} {a:Act}
theorem Inv.put (h:Inv P w0 L g0 hp0 st g a w) {d:Option Nat} {v:V} {c:Value} (hp:st.put d v=some st') (hc:v≠.no→c=H7 g v) (hi:∀ id∈idsV v,id<st.nx) (he:EpOK P st.hp v):Inv P w0 L g0 hp0 st' g (a.put d c) w:=by
 cases d with
 | none=>simp only [St.put,Option.some.injEq] at hp;subst hp;exact h
 | some d=>
   simp only [St.put] at hp
   cases hb:Nat.blt d st.nt with
   | false=>rw [hb] at hp;simp at hp
   | true=>
     rw [hb] at hp
     simp only [cond_true,Option.some.injEq] at hp
     subst hp
     have hd:d<a.tmps.size:=by
      have:d+1≤st.nt:=by simpa [Nat.blt] using hb
      rw [h.size];omega
     refine ⟨h.defers,by simpa [Act.put] using h.size,fun t u hu hno=>?_,fun t u hu=>?_,fun t u hu=>?_,h.keep,h.args,h.na,h.hpna,h.heap⟩
     · rw [O5] at hu
       split at hu
       · rename_i e;simp only [Option.some.injEq] at hu;subst hu;subst e
         simp only [Act.put,Array.getElem?_setIfInBounds,if_true,if_pos hd]
         rw [hc hno]
       · rename_i e
         simp only [Act.put,Array.getElem?_setIfInBounds,if_neg e]
         exact h.tm t u hu hno
     · rw [O5] at hu
       split at hu
       · rename_i e;simp only [Option.some.injEq] at hu;subst hu;exact hi
       · exact h.idT t u hu
     · rw [O5] at hu
       split at hu
       · rename_i e;simp only [Option.some.injEq] at hu;subst hu;exact he
       · exact h.ep t u hu
omit [RowL P R] in
theorem Inv.onto (h:Inv P w0 L g0 hp0 st g a w) {nx':Nat} {hp':List (Nat×Blk R)} {g':Nat→Value} {w':World} (hh:HOK P w0 L nx' hp' g' w') (hn:st.nx≤nx') (hg:∀ i,i<st.nx→g' i=g i) (hs:Same st.nx st.hp hp') :
 Inv P w0 L g0 hp0 { st with nx:=nx',hp:=hp' } g' a w':=
 ⟨h.defers,h.size,fun t v hv hno=>by rw [B4g fun id hid=>hg id (h.idT t v hv id hid)];exact h.tm t v hv hno,fun t v hv id hid=>Nat.lt_of_lt_of_le (h.idT t v hv id hid) hn,
   fun t v hv=>(h.ep t v hv).same hs (h.idT t v hv),fun i b0 hb0=>by
    obtain ⟨b,e1,e2,e3⟩:=h.keep i b0 hb0
    obtain ⟨b',f1,f2⟩:=hs.2 i b (h.heap.idH i b e1) e1 e3
    exact ⟨b',f1,e2.trans f2,e3.same f2⟩,fun id hid=>(hg id (Nat.lt_of_lt_of_le hid h.na)).trans (h.args id hid),Nat.le_trans h.na hn,h.hpna,hh⟩
theorem Inv.ev (h:Inv P w0 L g0 hp0 st g a w) {x:Operand} (hno:AI.ev st x≠.no):a.eval x=H7 g (AI.ev st x)∧(∀ id∈idsV (AI.ev st x),id<st.nx)∧EpOK P st.hp (AI.ev st x):=by
 cases x with
 | tmp t=>
   simp only [AI.ev,St.v] at *
   cases hv:get st.tm t with
   | none=>rw [hv] at hno;simp at hno
   | some v=>
     rw [hv] at hno
     simp only [Option.getD_some] at *
     refine ⟨?_,h.idT t v hv,h.ep t v hv⟩
     have:=h.tm t v hv hno
     simp only [Act.eval,Array.getD_eq_getD_getElem?,this,Option.getD_some]
 | const v=>
   cases v<;>simp only [AI.ev] at*<;> first | exact absurd rfl hno | skip
   case bool b=>exact ⟨rfl,by simp [idsV,idsW,idsC],trivial⟩
   case int k n=>exact ⟨rfl,by simp [idsV,idsW,idsC],trivial⟩
   case slice A n c=>
    cases A with
    | some _=>exact absurd rfl hno
    | none=>
      cases n with
      | succ _=>exact absurd rfl hno
      | zero=>cases c with
        | succ _=>exact absurd rfl hno
        | zero=>exact ⟨rfl,by simp [idsV],trivial⟩
 | global _=>exact absurd rfl hno
 | func _=>exact absurd rfl hno
structure Tch (g:Nat→Value) (l:List Nat) (w w':World):Prop where
 os:w'.os=w.os
 tape:w'.tape=w.tape
 output:w'.output=w.output
 size:w.heap.size≤w'.heap.size
 block:∀ k,k<w.heap.size→(∀ id∈l,T9 (g id)≠some k)→w'.heap[k]? = w.heap[k]?
theorem Tch.refl (g:Nat→Value) (l:List Nat) (w:World):Tch g l w w:=⟨rfl,rfl,rfl,Nat.le_refl _,fun _ _ _=>rfl⟩
theorem Tch.grown {g:Nat→Value} {l:List Nat} {w w':World} {row:Option Nat} (h:w.grownBy w' row) (hr:∀ n,row=some n→∃ id∈l,T9 (g id)=some n):Tch g l w w':=
 ⟨h.os,h.tape,h.output,h.size,fun k hk hl=>h.block k hk fun e=>by obtain ⟨id,h1,h2⟩:=hr k e.symm;exact hl id h1 h2⟩
def Ran (P:Program) (a:Act) (w:World) (o:Oper) (v:Value) (w':World):Prop:=(execOp a.eval o).run P w = .ok (.value v) w'∨(execOp a.eval o).run P w = .ok .skip w'∧v=undef
def LdOK (P:Program) (st:St R) (g:Nat→Value) (base:Nat) (o:Oper) (w1:World):Prop:=∀ id∈B8x st o,∀ b,get st.hp id=some b→S3 P g w1 base id b
def Eff (P:Program) (w0:World) (L:Nat→Prop) (g0:Nat→Value) (hp0:List (Blk R)) (st st':St R) (g:Nat→Value) (a:Act) (w:World) (o:Oper):Prop:=
 ∃ g' v w',Ran P a w o v w'∧Inv P w0 L g0 hp0 st' g' (a.put o.dst v) w'∧(∀ i,i<st.nx→g' i=g i)∧Tch g (A3a st o) w w' ∧
  (A0j o.op=true→g'=g∧∀ w1,LdOK P st g w0.heap.size o w1→(execOp a.eval o).run P w1 = .ok (.value v) w1)
omit [RowL P R] in
theorem A0w {o:Oper} {v:Value} (hI:Inv P w0 L g0 hp0 st' g (a.put o.dst v) w) (hl:LdOK P st g w0.heap.size o w) (hrun:∀ w1,LdOK P st g w0.heap.size o w1→(execOp a.eval o).run P w1 = .ok (.value v) w1):Eff P w0 L g0 hp0 st st' g a w o:=
 ⟨g,v,w,.inl (hrun w hl),hI,fun _ _=>rfl,Tch.refl _ _ _,fun _=>⟨rfl,hrun⟩⟩
omit [RowL P R] in
theorem B1d {o:Oper} {g':Nat→Value} {v:Value} {w':World} (hq:A0j o.op=false) (hrun:Ran P a w o v w') (hI:Inv P w0 L g0 hp0 st' g' (a.put o.dst v) w') (hg:∀ i,i<st.nx→g' i=g i) (ht:Tch g (A3a st o) w w'):Eff P w0 L g0 hp0 st st' g a w o:=
 ⟨g',v,w',hrun,hI,hg,ht,fun h=>by rw [hq] at h;simp at h⟩
omit [RowL P R] in
theorem C7j {o:Oper} (h:∀ t x,o.op≠.load t x) (w1:World):LdOK P st g w0.heap.size o w1:=by
 intro id hid
 unfold B8x at hid
 split at hid
 · rename_i t x hop;exact absurd hop (h t x)
 · simp at hid
omit [RowL P R] in
theorem S5 (h:Inv P w0 L g0 hp0 st g a w) (o:Oper):LdOK P st g w0.heap.size o w:=fun id _ b hb=>h.heap.blk id b hb
omit [RowL P R] in
theorem Eff.wp {o:Oper} {K:Act→World→Prop} {Q:Exit→Act→World→Prop} (h:Eff P w0 L g0 hp0 st st' g a w o) (hK:∀ g' a' w',Inv P w0 L g0 hp0 st' g' a' w'→K a' w'):o.wp P a w K Q:=by
 obtain ⟨g',v,w',hr,hI,_,_,_⟩:=h
 unfold Oper.wp
 rcases hr with hr | ⟨hr,rfl⟩
 · rw [hr];exact hK g' _ _ hI
 · rw [hr];exact hK g' _ _ hI
end
end
end Go.Proofs.YtmfgajbkcnlkcaaGreat.AI
namespace Go.Proofs.YtmfgajbkcnlkcaaGreat.AI
set_option linter.all false
open Go Go.RowKit
section
variable {R:Type} [RowT R] {P:Program} [RowL P R] {w0:World} {L:Nat→Prop} {g0:Nat→Value} {hp0:List (Blk R)} {st st':St R} {g:Nat→Value} {a:Act} {w w':World} {o:Oper}
variable {K:Act→World→Prop} {Q:Exit→Act→World→Prop} {ts:List Tst}
theorem oneC {nx:Nat} (h1:∀ i,i<nx→(g i).oneCell'=true) {c:C} (hi:∀ id∈idsC c,id<nx):(conc g c).oneCell'=true:=by
 cases c<;>simp only [conc]
 case sc v=>cases v<;>rfl
 case kb=>rfl
 case bo=>rfl
 case nb=>rfl
 case rw id=>exact h1 id (hi id (by simp [idsC]))
theorem A4e {v:Value} (h:v.oneCell'=true):v.cells=#[v]:=by cases v<;>first | rfl | (simp [Value.oneCell'] at h)
theorem C5z {nx:Nat} (h1:∀ i,i<nx→(g i).oneCell'=true) {y:W} (hi:∀ id∈idsW y,id<nx):(O4 g y).cells=(y.cells.map (conc g)).toArray:=by
 cases y with
 | c x=>simp only [O4,W.cells,List.map_cons,List.map_nil];exact A4e (oneC h1 hi)
 | ag xs=>rfl
theorem B6l (y:W):y.cells.flatMap idsC=idsW y:=by cases y<;>simp [W.cells,idsW]
theorem Inv.newRows (h:Inv P w0 L g0 hp0 st g a w) {d:Option Nat} {r:R} (hr:AI.newRows st d r=some st') {c:Value} {row:Option Nat} (hg:w.grownBy w' row)
 (hrow:∀ n,row=some n→(w0.heap.size≤n∨L n)∧∀ id b',get st.hp id=some b'→¬ HasB g id n b')
 (own:w'.ownsRow w0.heap.size (RowT.ty r) (P.cellsOf (RowT.ty r)) c (RowT.len r) (flat r)) (fresh:∀ n,T9 c=some n→w.heap.size≤n∨row=some n):∃ g',Inv P w0 L g0 hp0 st' g' (a.put d c) w'∧∀ i,i<st.nx→g' i=g i:=by
 refine ⟨upd g st.nx c,?_,fun i hi=>V3 g c (by omega)⟩
 have ho:c.oneCell'=true:=by rcases own.2 with ⟨rfl,_⟩ | ⟨_,_,_,rfl,_⟩<;>rfl
 have hh:=h.heap.add (b:=Blk.rows 2 r) (v:=c) hg hrow (by simp [idsB]) (by simpa [S3,U0] using own) (fun n hn=>fresh n (by simpa [HasB,U0] using hn)) ho
 have h1:=h.onto hh (Nat.le_succ _) (fun i hi=>V3 g c (by omega)) (Same.cons (.inl (Nat.le_refl _)))
 exact h1.put hr (fun _=>by simp [H7,O4,conc,U0]) (by simp [idsV,idsW,idsC]) trivial
theorem Inv.newBox (h:Inv P w0 L g0 hp0 st g a w) {d:Option Nat} {t:TypeId} {cs:List C} (hr:AI.newBox st d t cs=some st') (hi:∀ id∈cs.flatMap idsC,id<st.nx) {v:Value} (hv:v.cells=(cs.map (conc g)).toArray) :
 ∃ g',Inv P w0 L g0 hp0 st' g' (a.put d (.pointer (some ⟨w.heap.size,0,none⟩))) (w.alloc (.cells v.cells t))∧∀ i,i<st.nx→g' i=g i:=by
 refine ⟨upd g st.nx (.pointer (some ⟨w.heap.size,0,none⟩)),?_,fun i hi=>V3 g _ (by omega)⟩
 have hc:∀ id∈cs.flatMap idsC,upd g st.nx (.pointer (some ⟨w.heap.size,0,none⟩)) id=g id:=fun id hid=>V3 g _ (Nat.ne_of_lt (hi id hid))
 have hh:=h.heap.add (b:=(Blk.box t cs:Blk R)) (v:=.pointer (some ⟨w.heap.size,0,none⟩)) (row:=none) (World.grownBy_alloc w (.cells v.cells t) none) (by simp) (by simpa [idsB] using hi)
  ⟨w.heap.size,U0 _ _ _,by rw [A2q hc,← hv];exact heap_alloc_new w _,fun c hc'=>by
    rw [A1y fun id hid=>hc id (List.mem_flatMap.2 ⟨c,hc',hid⟩)]
    exact oneC h.heap.one fun id hid=>hi id (List.mem_flatMap.2 ⟨c,hc',hid⟩)⟩
  (fun n hn=>.inl (by simp [HasB,U0,T9] at hn;omega)) rfl
 have h1:=h.onto hh (Nat.le_succ _) (fun i hi=>V3 g _ (by omega)) (Same.cons (.inl (Nat.le_refl _)))
 exact h1.put hr (fun _=>by simp [H7,U0]) (by simp [idsV]) trivial
theorem B8l {t:TypeId} {r:R} (h:RowT.nil t=some r):w.ownsRow w0.heap.size (RowT.ty r) (P.cellsOf (RowT.ty r)) (.slice none 0 0) (RowT.len r) (flat r):=by
 obtain ⟨h1,_⟩:=RowL.nil_eq (P:=P) t r h
 have h2:RowT.len r=0:=by rw [RowL.len_eq (P:=P),h1];rfl
 have h3:flat r=[]:=by simp [flat,h1]
 rw [h2,h3];exact World.ownsRow_nil w _ _ _
theorem A7u (w:World):w.grownBy w none:=⟨rfl,rfl,rfl,Nat.le_refl _,fun _ _ _=>rfl⟩
theorem C4x {op:BinOp} {k:IntKind} {x y:Int} {c:C} (h:binI op k x y=some (ts,c)) (ht:∀ t∈ts,t.p) (t:TypeId):(binOp op t (.int k x) (.int k y)).run P w = .ok (conc g c) w∧idsC c=[]:=by
 cases op
 case shl=>
  simp only [binI,Option.some.injEq,Prod.mk.injEq] at h;obtain ⟨rfl,rfl⟩:=h
  have:=ht ⟨0≤y,inferInstance⟩ (by simp)
  refine ⟨?_,rfl⟩
  show (Op.shift .shl k x k y).run P w=_
  unfold Op.shift;rw [if_neg (Int.not_lt.2 this)];rfl
 case shr=>
  simp only [binI,Option.some.injEq,Prod.mk.injEq] at h;obtain ⟨rfl,rfl⟩:=h
  have:=ht ⟨0≤y,inferInstance⟩ (by simp)
  refine ⟨?_,rfl⟩
  show (Op.shift .shr k x k y).run P w=_
  unfold Op.shift;rw [if_neg (Int.not_lt.2 this)]
  simp [conc,Sc.v,Int.fdiv_eq_ediv_of_nonneg _ (show (0:Int)≤2 ^ min y.toNat k.bits from Int.le_of_lt (Int.pow_pos (by decide)))]
 all_goals simp only [binI,Option.some.injEq,Prod.mk.injEq,reduceCtorEq] at h
 all_goals obtain ⟨rfl,rfl⟩:=h
 case eql=>simp [binOp,Op.intCmp,conc,idsC];rw [Bool.eq_iff_iff];simp
 case neq=>simp [binOp,Op.intCmp,conc,idsC];rw [Bool.eq_iff_iff];simp
 case quo=>have:=ht ⟨y≠0,inferInstance⟩ (by simp);simp [binOp,Op.intDiv,conc,Sc.v,idsC,B6y,show y≠0 from this]
 case rem=>have:=ht ⟨y≠0,inferInstance⟩ (by simp);simp [binOp,Op.intDiv,conc,Sc.v,idsC,B6y,show y≠0 from this]
 case and=>exact ⟨by simp [binOp,intBits_and,conc,Sc.v],rfl⟩
 case or=>exact ⟨by simp [binOp,intBits_or,conc,Sc.v],rfl⟩
 all_goals simp [binOp,Op.intArith,Op.intCmp,conc,Sc.v,idsC,B6y]
theorem A5e:∀ (vs:List Value) (fs:List Field) (nx nx':Nat) (hp es:List (Nat×Blk R)) (cs:List C) (g:Nat→Value),HOK P w0 L nx hp g w→W6 P nx vs fs=some (nx',cs,es)→
 ∃ g',HOK P w0 L nx' (es++hp) g' w∧nx≤nx'∧(∀ i,i<nx→g' i=g i)∧cs.map (conc g')=vs∧(∀ id∈cs.flatMap idsC,id<nx')∧Same nx hp (es++hp)
 | [],fs,nx,nx',hp,es,cs,g,h,hz=>by
   cases fs with
   | cons f fs=>simp [W6] at hz
   | nil=>simp only [W6,Option.some.injEq,Prod.mk.injEq] at hz;obtain ⟨rfl,rfl,rfl⟩:=hz;exact ⟨g,h,Nat.le_refl _,fun _ _=>rfl,rfl,by simp,Same.refl _ _⟩
 | v::vs,fs,nx,nx',hp,es,cs,g,h,hz=>by
   cases fs with
   | nil=>cases v<;>first | (simp [W6] at hz;done) | (rename_i A n c;cases A<;>first | (simp [W6] at hz;done) | (cases n<;>first | (simp [W6] at hz;done) | (cases c<;>simp [W6] at hz)))
   | cons f fs=>
     cases v<;>first | (simp [W6] at hz;done) | skip
     case bool b=>
      simp only [W6] at hz
      split at hz
      · rename_i nx1 cs1 es1 h1
        simp only [Option.some.injEq,Prod.mk.injEq] at hz;obtain ⟨rfl,rfl,rfl⟩:=hz
        obtain ⟨g',h2,h3,h4,h5,h6,h7⟩:=A5e vs fs nx _ hp _ _ g h h1
        exact ⟨g',h2,h3,h4,by rw [List.map_cons,h5];rfl,by simpa [idsC] using h6,h7⟩
      · simp at hz
     case int k n=>
      simp only [W6] at hz
      split at hz
      · rename_i nx1 cs1 es1 h1
        simp only [Option.some.injEq,Prod.mk.injEq] at hz;obtain ⟨rfl,rfl,rfl⟩:=hz
        obtain ⟨g',h2,h3,h4,h5,h6,h7⟩:=A5e vs fs nx _ hp _ _ g h h1
        exact ⟨g',h2,h3,h4,by rw [List.map_cons,h5];rfl,by simpa [idsC] using h6,h7⟩
      · simp at hz
     case slice A n c=>
      cases A with
      | some _=>simp [W6] at hz
      | none=>
         cases n with
        | succ _=>simp [W6] at hz
        | zero=>
           cases c with
          | succ _=>simp [W6] at hz
          | zero=>
            simp only [W6] at hz
            split at hz
            · split at hz
              · rename_i e he r nx1 cs1 es1 hr h1
                simp only [Option.some.injEq,Prod.mk.injEq] at hz;obtain ⟨rfl,rfl,rfl⟩:=hz
                have h0:=h.add (b:=Blk.rows 2 r) (v:=.slice none 0 0) (A7u w) (row:=none) (by simp) (by simp [idsB]) (by simpa [S3,U0] using B8l (P:=P) (w0:=w0) (w:=w) hr) (fun n hn=>by simp [HasB,U0,T9] at hn) rfl
                obtain ⟨g',h2,h3,h4,h5,h6,h7⟩:=A5e vs fs (nx+1) _ _ _ _ _ h0 h1
                refine ⟨g',by rw [List.append_assoc];exact h2,by omega,fun i hi=>(h4 i (by omega)).trans (V3 g _ (by omega)),?_,?_,by rw [List.append_assoc];exact (Same.cons (.inl (Nat.le_refl _))).trans h7 (Nat.le_succ _)⟩
                · rw [List.map_cons,h5];simp only [conc];rw [h4 nx (by omega),U0]
                · intro id hid
                  simp only [List.flatMap_cons,idsC,List.singleton_append,List.mem_cons] at hid
                  rcases hid with rfl | hid
                  · omega
                  · exact h6 id hid
              · simp at hz
            · simp at hz
theorem A9r {t:TypeId} {cs:List C} (h:Inv P w0 L g0 hp0 st g a w) (hz:A4y P t st=some (st',cs)):∃ g' fs i z,Inv P w0 L g0 hp0 st' g' a w∧P.underlying t=some (.struct fs)∧P.info? t=some i∧i.zero=some (.agg z)∧cs.map (conc g')=z.toList ∧
 (∀ id∈cs.flatMap idsC,id<st'.nx)∧(∀ x,AI.ev st' x=AI.ev st x)∧(∀ i,i<st.nx→g' i=g i)∧st.nx≤st'.nx:=by
 unfold A4y at hz
 split at hz
 · rename_i fs i hu hi
   split at hz
   · rename_i z hiz
     split at hz
     · rename_i nx' cs' es h1
       simp only [Option.some.injEq,Prod.mk.injEq] at hz;obtain ⟨rfl,rfl⟩:=hz
       obtain ⟨g',h2,h3,h4,h5,h6,h7⟩:=A5e _ _ _ _ _ _ _ g h.heap h1
       exact ⟨g',fs,i,z,h.onto h2 h3 h4 h7,hu,hi,hiz,h5,h6,fun x=>by cases x<;>rfl,h4,h3⟩
     · simp at hz
   · simp at hz
 · simp at hz
theorem B4n {t:TypeId} {i:TypeInfo} {z:Value} (hi:P.info? t=some i) (hz:i.zero=some z):(zeroValue t).run P w = .ok z w:=by simp [zeroValue,typeInfo,hi,hz]
theorem C3f {t:TypeId} (hop:o.op = .alloc t) (h:Inv P w0 L g0 hp0 st g a w) {cs:List C} {st1:St R} (hz:A4y P t st=some (st1,cs)) (hp:AI.newBox st1 o.dst t cs=some st'):Eff P w0 L g0 hp0 st st' g a w o:=by
 obtain ⟨g1,fs,i,z,h1,hu,hi,hiz,hc,hids,_,hg1,hnx⟩:=A9r h hz
 obtain ⟨g',h2,hg2⟩:=h1.newBox (v:=.agg z) hp hids (by rw [hc];simp [Value.cells])
 refine B1d (w':=w.alloc (.cells (Value.agg z).cells t)) (by rw [hop];rfl) (.inl ?_) h2 (fun i hi=>(hg2 i (by omega)).trans (hg1 i hi)) (Tch.grown (World.grownBy_alloc w _ none) (by simp))
 unfold execOp;rw [hop]
 simp [Instr.alloc,B4n hi hiz,newVar,newRow]
theorem C8f {t:TypeId} {x:Operand} (hop:o.op = .box t x) (h:Inv P w0 L g0 hp0 st g a w) {y:W} (hy:AI.ev st x = .w y) (hp:AI.newBox st o.dst t y.cells=some st'):Eff P w0 L g0 hp0 st st' g a w o:=by
 obtain ⟨he,hi,_⟩:=h.ev (x:=x) (by rw [hy];simp)
 rw [hy] at he hi
 obtain ⟨g',h2,hg2⟩:=h.newBox (v:=O4 g y) hp (by rw [B6l];exact hi) (C5z h.heap.one hi)
 refine B1d (w':=w.alloc (.cells (O4 g y).cells t)) (by rw [hop];rfl) (.inl ?_) h2 hg2 (Tch.grown (World.grownBy_alloc w _ none) (by simp))
 unfold execOp;rw [hop]
 simp [Instr.box,newVar,newRow,he,H7]
end
end Go.Proofs.YtmfgajbkcnlkcaaGreat.AI
namespace Go.Proofs.YtmfgajbkcnlkcaaGreat.AI
set_option linter.all false
open Go Go.RowKit
theorem A0z {α:Type}:∀ (l:List α) (n:Nat),nth l n=l[n]?
 | [],_=>by simp [nth]
 | x::l,0=>by simp [nth]
 | x::l,n+1=>by simp [nth,A0z l n]
theorem A3o {α:Type}:∀ (l:List α) (n:Nat) (y:α),A5s l n y=l.set n y
 | [],_,_=>by simp [A5s]
 | x::l,0,y=>by simp [A5s]
 | x::l,n+1,y=>by simp [A5s,A3o l n y]
theorem O3 {a b:Nat} (h:Nat.beq a b=true):a=b:=Nat.eq_of_beq_eq_true h
theorem A4t {α:Type} {n:Nat}:∀ (l:List (List α)),(∀ c∈l,c.length=n)→∀ (i j:Nat),j<n→l.flatten[i*n+j]? = (l[i]?).bind (·[j]?)
 | [],_,i,j,_=>by simp
 | c::l,h,i,j,hj=>by
   have hc:=h c (List.mem_cons_self ..)
   cases i with
   | zero=>
     rw [List.flatten_cons,Nat.zero_mul,Nat.zero_add,List.getElem?_append_left (by omega)];rfl
   | succ i=>
     rw [List.flatten_cons,Nat.succ_mul,List.getElem?_append_right (by omega),show i*n+n+j-c.length=i*n+j by omega,A4t l (fun c' h'=>h c' (List.mem_cons_of_mem _ h')) i j hj]
     rfl
theorem add_add (a:Addr) (x y:Nat):(a.add x).add y=a.add (x+y):=by
 unfold Addr.add
 by_cases h1:x=0<;>by_cases h2:y=0<;>simp [h1,h2,Nat.add_assoc]
theorem add_lit (b o n:Nat):(⟨b,o,none⟩:Addr).add n=⟨b,o+n,none⟩:=by
 unfold Addr.add;split<;>simp_all
section
variable {R:Type} [RowT R] {P:Program} [RowL P R] {w0:World} {L:Nat→Prop} {g0:Nat→Value} {hp0:List (Blk R)} {st st':St R} {g:Nat→Value} {a:Act} {w w':World} {o:Oper}
variable {K:Act→World→Prop} {Q:Exit→Act→World→Prop} {ts:List Tst}
theorem C5d (P:Program) [RowL P R] (r:R):0<P.cellsOf (RowT.ty r):=by
 obtain ⟨i,z,hi,_,_,hs,_⟩:=RowL.info (P:=P) r
 simpa [Program.cellsOf,hi] using hs
theorem A4u (P:Program) [RowL P R] {r:R} {c:List Sc} (hc:c∈RowT.cel r):c.length=P.cellsOf (RowT.ty r):=by
 obtain ⟨i,z,hi,_,_,_,_,h⟩:=RowL.info (P:=P) r
 simpa [Program.cellsOf,hi] using h c hc
theorem C7w (P:Program) [RowL P R] {r:R} {i:Nat} (hi:i<RowT.len r):RowT.elt r i∈RowT.cel r:=List.mem_of_getElem? (RowL.elt_eq (P:=P) r i hi)
theorem A9a (P:Program) [RowL P R] {r:R} {i j:Nat} (hi:i<RowT.len r) (hj:j<P.cellsOf (RowT.ty r)):(flat r)[i*P.cellsOf (RowT.ty r)+j]? = ((RowT.elt r i)[j]?).map Sc.v:=by
 rw [flat,List.getElem?_map,A4t _ (fun c hc=>A4u P hc) i j hj,RowL.elt_eq (P:=P) r i hi];rfl
theorem C0h (P:Program) [RowL P R] {r:R} {i:Nat} (hi:i<RowT.len r):(RowT.elt r i).length=P.cellsOf (RowT.ty r):=A4u P (C7w P hi)
theorem A4j {id k:Nat} {r:R} {base:Nat} (h:S3 P g w base id (.rows k r)) (hp:0<RowT.len r):∃ ad n cap,g id = .slice (some ad) n cap∧n=RowT.len r∧∀ j u,(flat r)[j]? = some u→w.cell? (ad.add j)=some u:=by
 cases k with
 | zero=>
   obtain ⟨A,cap,hg,_,_,hc⟩:=h
   have h0:0<(flat r).length:=by rw [Z3 (P:=P)];exact Nat.mul_pos hp (C5d P r)
   obtain ⟨ad,hA,_⟩:=hc 0 _ (List.getElem?_eq_getElem h0)
   refine ⟨ad,_,cap,by rw [hg,hA],rfl,fun j u hu=>?_⟩
   obtain ⟨ad',hA',hcell⟩:=hc j u hu
   rw [hA] at hA';injection hA' with e;subst e;exact hcell
 | succ k=>
   rcases h.2 with ⟨_,h0⟩ | ⟨b,cap,cur,hv,_,hh,_,_,_,ht⟩
   · omega
   · refine ⟨⟨b,0,none⟩,_,cap,hv,rfl,fun j u hu=>?_⟩
     rw [add_lit,cell_of_row w b _ cur _ _ hh]
     rw [← ht,List.getElem?_take] at hu
     split at hu
     · simpa using hu
     · simp at hu
theorem A6g {t:TypeId} {d:TypeDesc} (h:P.underlying t=some d):∃ i,P.info? t=some i:=by
 unfold Program.underlying at h
 cases hi:P.info? t with
 | none=>rw [hi] at h;simp at h
 | some i=>exact ⟨i,rfl⟩
theorem A2t {t:TypeId} {i:TypeInfo} (h:P.info? t=some i):(sizeOf t).run P w = .ok (P.cellsOf t) w:=by
 simp [sizeOf,typeInfo,h,Program.cellsOf]
theorem A5u {t:TypeId} {fs:Array Field} (h:P.underlying t=some (.struct fs)):(isAgg t).run P w = .ok true w:=by
 simp [isAgg,run_underlying h]
theorem A0v {t:TypeId} (h:V2 P t=true):∃ fs,P.underlying t=some (.struct fs):=by
 unfold V2 at h
 split at h
 · rename_i fs hu;exact ⟨fs,hu⟩
 · simp at h
theorem A8z {t:TypeId} (h:A4r P t=true):P.cellsOf t=1∧(isAgg t).run P w = .ok false w∧∃ i,P.info? t=some i:=by
 unfold A4r at h
 simp only [Bool.and_eq_true] at h
 obtain ⟨h1,h2⟩:=h
 refine ⟨O3 h1,?_⟩
 split at h2<;>first | (simp at h2;done) | (rename_i hu;exact ⟨by simp [isAgg,run_underlying hu],A6g hu⟩)
theorem A3b {t:TypeId} {fs:Array Field} (hu:P.underlying t=some (.struct fs)) {ad:Addr} {cs:List Value} (hl:P.cellsOf t=cs.length) (h:∀ j v,cs[j]? = some v→w.cell? (ad.add j)=some v) :
 (Instr.loadAt t (.pointer (some ad))).run P w = .ok (.agg cs.toArray) w:=by
 obtain ⟨i,hi⟩:=A6g hu
 simp [Instr.loadAt,Instr.sureAddr,loadVar,A5u hu,A2t hi,hl,run_loadCells_list w ad cs h]
theorem A5t {t:TypeId} (h1:A4r P t=true) {ad:Addr} {v:Value} (h:w.cell? ad=some v):(Instr.loadAt t (.pointer (some ad))).run P w = .ok v w:=by
 obtain ⟨_,h2,_⟩:=A8z (P:=P) (w:=w) h1
 simp [Instr.loadAt,Instr.sureAddr,loadVar,h2,run_load,h]
theorem C6f {t:TypeId} {x:Operand} (hop:o.op = .load t x) (h:Inv P w0 L g0 hp0 st g a w) (hp:pop P o st=some (ts,st')):Eff P w0 L g0 hp0 st st' g a w o:=by
 unfold pop at hp
 rw [hop] at hp
 dsimp only at hp
 have hex:execOp a.eval o=(do pure (Next.value (← Instr.loadAt t (a.eval x)))):=by unfold execOp;rw [hop]
 split at hp
 · -- a variable
   rename_i id off hv
   obtain ⟨he,hi,_⟩:=h.ev (x:=x) (by rw [hv];simp)
   rw [hv] at he hi
   split at hp
   · rename_i t' cs hb
     obtain ⟨b,hg,_,h1⟩:=h.heap.blk _ _ hb
     have hld:∀ w1,LdOK P st g w0.heap.size o w1→S3 P g w1 w0.heap.size id (.box t' cs:Blk R):=fun w1 hw1=>hw1 id (by simp [B8x,hop,hv,idOf]) _ hb
     have he':a.eval x = .pointer (some ⟨b,off,none⟩):=by rw [he];simp only [H7,hg]
     cases hc:(V2 P t&&Nat.beq off 0&&Nat.beq t t'&&Nat.beq (P.cellsOf t) cs.length) with
     | true=>
       rw [hc] at hp
       simp only [cond_true] at hp
       simp only [Bool.and_eq_true] at hc
       obtain ⟨⟨⟨hs,h0⟩,ht⟩,hl⟩:=hc
       obtain ⟨fs,hu⟩:=A0v hs
       obtain rfl:=O3 h0
       split at hp<;>simp only [Option.some.injEq,Prod.mk.injEq,reduceCtorEq] at hp
       rename_i s hs'
       obtain ⟨_,rfl⟩:=hp
       refine A0w (v:=.agg (cs.map (conc g)).toArray) (h.put hs' (fun _=>rfl) (fun id' hid=>h.heap.idB _ _ hb id' (by simpa [idsV,idsW,idsB] using hid)) trivial) (S5 h o) (fun w1 hw1=>?_)
       obtain ⟨b',hg',hh,_⟩:=hld w1 hw1
       rw [hg] at hg';injection hg' with hg';injection hg' with hg';injection hg' with hg';subst hg'
       rw [hex,he']
       simp [A3b hu (cs:=cs.map (conc g)) (ad:=⟨b,0,none⟩) (w:=w1) (by rw [O3 hl];simp) (fun j v hj=>by rw [add_lit,cell_of_row w1 b _ _ _ _ hh];simpa using hj)]
     | false=>
       rw [hc] at hp
       simp only [cond_false] at hp
       cases ho:A4r P t with
       | false=>rw [ho] at hp;simp at hp
       | true=>
         rw [ho] at hp
         simp only [cond_true] at hp
         split at hp
         · rename_i c hcc
           split at hp<;>simp only [Option.some.injEq,Prod.mk.injEq,reduceCtorEq] at hp
           rename_i s hs'
           obtain ⟨_,rfl⟩:=hp
           rw [A0z] at hcc
           refine A0w (v:=conc g c) (h.put hs' (fun _=>rfl) (fun id' hid=>h.heap.idB _ _ hb id' (by
            simp only [idsB];exact List.mem_flatMap.2 ⟨c,List.mem_of_getElem? hcc,by simpa [idsV,idsW] using hid⟩)) trivial) (S5 h o) (fun w1 hw1=>?_)
           obtain ⟨b',hg',hh,_⟩:=hld w1 hw1
           rw [hg] at hg';injection hg' with hg';injection hg' with hg';injection hg' with hg';subst hg'
           rw [hex,he']
           simp [A5t (P:=P) (w:=w1) (ad:=⟨b,off,none⟩) (v:=conc g c) ho (by rw [cell_of_row w1 b _ _ _ _ hh];simp [hcc])]
         · simp at hp
   · simp at hp
 · -- an element
   rename_i id sz i off hv
   obtain ⟨he,hi,hep⟩:=h.ev (x:=x) (by rw [hv];simp)
   rw [hv] at he hi hep
   split at hp
   · rename_i k r hb
     obtain ⟨hlt,hsz⟩:=hep k r hb
     obtain ⟨ad,n,cap,hg,_,_⟩:=A4j (h.heap.blk _ _ hb) (Nat.lt_of_le_of_lt (Nat.zero_le _) hlt)
     have hld:∀ w1,LdOK P st g w0.heap.size o w1→∀ j u,(flat r)[j]? = some u→w1.cell? (ad.add j)=some u:=fun w1 hw1=>by
      obtain ⟨ad',n',cap',hg',_,hcell⟩:=A4j (hw1 id (by simp [B8x,hop,hv,idOf]) _ hb) (Nat.lt_of_le_of_lt (Nat.zero_le _) hlt)
      rw [hg] at hg';injection hg' with hg';injection hg' with hg';subst hg';exact hcell
     have he':a.eval x = .pointer (some (ad.add (i*sz+off))):=by rw [he];simp only [H7,hg]
     have hel:=C0h P hlt
     cases hc:(V2 P t&&Nat.beq off 0&&Nat.beq t (RowT.ty r)) with
     | true=>
       rw [hc] at hp
       simp only [cond_true] at hp
       simp only [Bool.and_eq_true] at hc
       obtain ⟨⟨hs,h0⟩,ht⟩:=hc
       obtain ⟨fs,hu⟩:=A0v hs
       obtain rfl:=O3 h0
       obtain rfl:=O3 ht
       split at hp<;>simp only [Option.some.injEq,Prod.mk.injEq,reduceCtorEq] at hp
       rename_i s hs'
       obtain ⟨_,rfl⟩:=hp
       have hm:((RowT.elt r i).map C.sc).map (conc g)=(RowT.elt r i).map Sc.v:=by rw [List.map_map];rfl
       refine A0w (v:=.agg ((RowT.elt r i).map Sc.v).toArray) (h.put hs' (fun _=>by simp only [H7,O4,hm]) (by simp [idsV,idsW,idsC]) trivial) (S5 h o) (fun w1 hw1=>?_)
       have hcell:=hld w1 hw1
       rw [hex,he']
       simp [A3b hu (cs:=(RowT.elt r i).map Sc.v) (ad:=ad.add (i*sz)) (w:=w1) (by simp [hel]) (fun j v hj=>by
        rw [add_add];refine hcell _ _ ?_
        rw [List.getElem?_map] at hj
        rw [hsz,A9a P hlt (by rcases Nat.lt_or_ge j (RowT.elt r i).length with h1 | h1;omega;rw [List.getElem?_eq_none h1] at hj;simp at hj)];exact hj)]
     | false=>
       rw [hc] at hp
       simp only [cond_false] at hp
       cases ho:A4r P t with
       | false=>rw [ho] at hp;simp at hp
       | true=>
         rw [ho] at hp
         simp only [cond_true] at hp
         split at hp
         · rename_i s hcc
           split at hp<;>simp only [Option.some.injEq,Prod.mk.injEq,reduceCtorEq] at hp
           rename_i st2 hs'
           obtain ⟨_,rfl⟩:=hp
           rw [A0z] at hcc
           have hj:off<(RowT.elt r i).length:=by
            rcases Nat.lt_or_ge off (RowT.elt r i).length with h1 | h1
            · exact h1
            · rw [List.getElem?_eq_none h1] at hcc;simp at hcc
           refine A0w (v:=s.v) (h.put hs' (fun _=>rfl) (by simp [idsV,idsW,idsC]) trivial) (S5 h o) (fun w1 hw1=>?_)
           have hcell:=hld w1 hw1
           rw [hex,he']
           simp [A5t (P:=P) (w:=w1) (ad:=ad.add (i*sz+off)) (v:=s.v) ho (hcell _ _ (by rw [hsz,A9a P hlt (by omega),hcc];rfl))]
         · simp at hp
   · simp at hp
 · simp at hp
end
end Go.Proofs.YtmfgajbkcnlkcaaGreat.AI
namespace Go.Proofs.YtmfgajbkcnlkcaaGreat.AI
set_option linter.all false
open Go Go.RowKit
theorem A6j {α:Type} {n:Nat}:∀ (l:List (List α)),(∀ c∈l,c.length=n)→∀ (i:Nat) (c:List α),i<l.length→(l.set i c).flatten=l.flatten.take (i*n)++c++l.flatten.drop (i*n+n)
 | [],_,i,c,hi=>by simp at hi
 | e::l,h,i,c,hi=>by
   have he:=h e (List.mem_cons_self ..)
   cases i with
   | zero=>
     simp only [List.set_cons_zero,List.flatten_cons,Nat.zero_mul,Nat.zero_add,List.take_zero,List.nil_append]
     rw [← he,List.drop_left]
   | succ i=>
     simp only [List.set_cons_succ,List.flatten_cons]
     rw [A6j l (fun c' h'=>h c' (List.mem_cons_of_mem _ h')) i c (by simpa using hi),show (i+1)*n+n=e.length+(i*n+n) by rw [Nat.succ_mul];omega,show (i+1)*n=e.length+i*n by rw [Nat.succ_mul];omega,
      List.take_length_add_append,List.drop_length_add_append]
     simp only [List.append_assoc]
theorem A5c {α:Type} {n:Nat}:∀ (l:List (List α)),(∀ c∈l,c.length=n)→∀ (i off:Nat) (e:List α) (v:α),l[i]? = some e→off<n→(l.set i (e.set off v)).flatten=l.flatten.set (i*n+off) v
 | [],_,i,off,e,v,hi,_=>by simp at hi
 | e0::l,h,i,off,e,v,hi,ho=>by
   have he:=h e0 (List.mem_cons_self ..)
   cases i with
   | zero=>
     simp only [List.getElem?_cons_zero,Option.some.injEq] at hi
     subst hi
     simp only [List.set_cons_zero,List.flatten_cons,Nat.zero_mul,Nat.zero_add]
     rw [List.set_append_left _ _ (by omega)]
   | succ i=>
     simp only [List.getElem?_cons_succ] at hi
     simp only [List.set_cons_succ,List.flatten_cons]
     rw [A5c l (fun c' h'=>h c' (List.mem_cons_of_mem _ h')) i off e v hi ho,Nat.succ_mul,List.set_append_right _ _ (by omega)]
     congr 2;omega
section
variable {R:Type} [RowT R] {P:Program} [RowL P R] {w0:World} {L:Nat→Prop} {g0:Nat→Value} {hp0:List (Blk R)} {st st':St R} {g:Nat→Value} {a:Act} {w w':World} {o:Oper}
variable {K:Act→World→Prop} {Q:Exit→Act→World→Prop} {ts:List Tst}
theorem Y3 (w:World) (b:Nat) (cs:Array Value):w.grownBy (w.setRow b cs) (some b):=⟨rfl,rfl,rfl,by simp,fun k _ hk=>setRow_other w b k _ (fun e=>hk (by simp [e]))⟩
theorem A1s {t:TypeId} {i:TypeInfo} (hi:P.info? t=some i) {b off:Nat} {t':TypeId} {cur:Array Value} {v:Value} {vs:List Value} (hv:v.cells.toList=vs) (hl:vs.length=P.cellsOf t)
 (hh:w.heap[b]? = some (.cells cur t' (0,0))) (hf:off+vs.length≤cur.size) (h1:∀ u∈vs,u.oneCell'=true) :
 (Instr.storeAt t (.pointer (some ⟨b,off,none⟩)) v).run P w = .ok () (w.setRow b (cur.toList.take off++vs++cur.toList.drop (off+vs.length)).toArray):=by
 have hs:v.cells.size=P.cellsOf t:=by rw [← hl,← hv];simp
 have:=run_storeCells_at P b off t' vs 0 cur w hh (by simpa using hf) h1
 simp [Instr.storeAt,Instr.sureAddr,storeVar,A2t hi,hs,hv,this]
theorem Sc.one (s:Sc):s.v.oneCell'=true:=by cases s<;>rfl
theorem A3l {c:C} {s:Sc} (h:c.val=some s):conc g c=s.v:=by
 cases c<;>simp only [C.val,Option.some.injEq,reduceCtorEq] at h<;>subst h<;>rfl
theorem A5m:∀ {cs:List C} {vs:List Sc},vals cs=some vs→cs.map (conc g)=vs.map Sc.v
 | [],vs,h=>by simp only [vals,Option.some.injEq] at h;subst h;rfl
 | c::cs,vs,h=>by
   simp only [vals] at h
   split at h
   · rename_i v vs' h1 h2
     simp only [Option.some.injEq] at h;subst h
     rw [List.map_cons,List.map_cons,A3l h1,A5m h2]
   · simp at h
theorem B8b {base e sz n b off:Nat} {c:Value} {xs vs:List Value} {cur:Array Value} {cap:Nat} (h:w.ownsRow base e sz c n xs) (hc:c = .slice (some ⟨b,0,none⟩) n cap) (hh:w.heap[b]? = some (.cells cur e (0,0)))
 (hf:off+vs.length≤n*sz):(w.setRow b (cur.toList.take off++vs++cur.toList.drop (off+vs.length)).toArray).ownsRow base e sz c n (xs.take off++vs++xs.drop (off+vs.length)):=by
 obtain ⟨hl,h2⟩:=h
 rcases h2 with ⟨h2,_⟩ | ⟨b',cap',cur',hv,hb,hh',h3,h4,h5,h6⟩
 · rw [hc] at h2;simp at h2
 · rw [hc] at hv
   simp only [Value.slice.injEq,Option.some.injEq,Addr.mk.injEq,and_true,true_and] at hv
   obtain ⟨rfl,rfl⟩:=hv
   rw [hh] at hh'
   simp only [Option.some.injEq,Obj.cells.injEq,and_true] at hh'
   subst hh'
   have hN:n*sz≤cur.toList.length:=by rw [Array.length_toList,h5];exact Nat.mul_le_mul_right _ h3
   refine ⟨?_,.inr ⟨b,cap,_,hc,hb,setRow_heap w b cur _ e _ hh,h3,h4,?_,?_⟩⟩
   · simp only [List.length_append,List.length_take,List.length_drop];omega
   · simp only [List.size_toArray,List.length_append,List.length_take,List.length_drop,Array.length_toList]
     rw [Array.length_toList] at hN;omega
   · subst h6
     have e1:(cur.toList.take (n*sz)).take off=cur.toList.take off:=by rw [List.take_take,Nat.min_eq_left (by omega)]
     have e2:(cur.toList.take (n*sz)).drop (off+vs.length)=(cur.toList.drop (off+vs.length)).take (n*sz-off-vs.length):=by rw [List.drop_take];congr 1;omega
     have e3:(cur.toList.take off).length=off:=by simp only [List.length_take];omega
     have e4:((cur.toList.take off++vs++cur.toList.drop (off+vs.length)).take (n*sz))=cur.toList.take off++vs++(cur.toList.drop (off+vs.length)).take (n*sz-off-vs.length):=by
      rw [List.append_assoc,List.append_assoc,List.take_append,e3,List.take_of_length_le (by omega:(cur.toList.take off).length≤n*sz),List.take_append,List.take_of_length_le (by omega:vs.length≤n*sz-off)]
     rw [e1,e2,← e4]
theorem C3d {t:TypeId} {x y:Operand} (hop:o.op = .store t x y) (h:Inv P w0 L g0 hp0 st g a w) (hp:pop P o st=some (ts,st')):Eff P w0 L g0 hp0 st st' g a w o:=by
 unfold pop at hp
 rw [hop] at hp
 dsimp only at hp
 have hex:execOp a.eval o=(do Instr.storeAt t (a.eval x) (a.eval y);pure Next.skip):=by unfold execOp;rw [hop]
 have fin:∀ {w':World} {hp':List (Nat×Blk R)} {id b:Nat},(Instr.storeAt t (a.eval x) (a.eval y)).run P w = .ok () w'→o.dst=none→HOK P w0 L st.nx hp' g w'→Same st.nx st.hp hp'→st' = { st with hp:=hp' }→id∈idOf (AI.ev st x)→T9 (g id)=some b→w.grownBy w' (some b)→Eff P w0 L g0 hp0 st st' g a w o:=by
  intro w' hp' id b hr hd hh hs e hid hblk hgr
  refine B1d (g':=g) (v:=undef) (w':=w') (by rw [hop];rfl) (.inr ⟨by rw [hex];simp [hr],rfl⟩) ?_ (fun _ _=>rfl) (Tch.grown hgr (fun n hn=>⟨id,by simpa [A3a,hop] using hid,by injection hn with hn;rw [← hn];exact hblk⟩))
  rw [hd]
  subst e
  exact h.onto hh (Nat.le_refl _) (fun _ _=>rfl) hs
 split at hp
 · -- a variable
   rename_i id off y' hdst hv hy
   obtain ⟨he,hi,_⟩:=h.ev (x:=x) (by rw [hv];simp)
   obtain ⟨he2,hi2,_⟩:=h.ev (x:=y) (by rw [hy];simp)
   rw [hv] at he hi
   rw [hy] at he2 hi2
   split at hp
   · rename_i t' cs hb
     obtain ⟨b,hg,hh,h1⟩:=h.heap.blk _ _ hb
     have he':a.eval x = .pointer (some ⟨b,off,none⟩):=by rw [he];simp only [H7,hg]
     have hblk:T9 (g id)=some b:=by rw [hg];rfl
     have turn:∀ (zs:List C) (arr:Array Value),(∀ j∈zs.flatMap idsC,j<st.nx)→arr=(zs.map (conc g)).toArray→HOK P w0 L st.nx ((id,.box t' zs)::st.hp) g (w.setRow b arr):=fun zs arr hz e=>
      h.heap.turn (b:=.box t' cs) (b':=.box t' zs) hb trivial trivial (by rw [hblk];exact Y3 w b _) hz
       ⟨b,hg,by rw [e];exact setRow_heap w b _ _ t' _ hh,fun c hc=>oneC h.heap.one fun q hq=>hz q (List.mem_flatMap.2 ⟨c,hc,hq⟩)⟩ (fun _=>Iff.rfl) (fun _ hn=>hn)
     split at hp
     · rename_i ys
       cases hc:(V2 P t&&Nat.beq off 0&&Nat.beq t t'&&Nat.beq ys.length cs.length&&Nat.beq (P.cellsOf t) cs.length) with
       | false=>rw [hc] at hp;simp at hp
       | true=>
         rw [hc] at hp
         simp only [cond_true,Option.some.injEq,Prod.mk.injEq] at hp
         obtain ⟨_,hp⟩:=hp
         simp only [Bool.and_eq_true] at hc
         obtain ⟨⟨⟨⟨hs,h0⟩,ht⟩,hl⟩,hl2⟩:=hc
         obtain ⟨fs,hu⟩:=A0v hs
         obtain ⟨i,hinf⟩:=A6g hu
         obtain rfl:=O3 h0
         have hl':=O3 hl
         have hl2':=O3 hl2
         have hys:∀ j∈ys.flatMap idsC,j<st.nx:=by simpa [idsV,idsW] using hi2
         refine fin (w':=w.setRow b ((ys.map (conc g)).toArray)) ?_ hdst (turn ys _ hys rfl) (Same.cons (.inr (.inl ⟨_,_,_,rfl,hb⟩))) hp.symm (id:=id) (by rw [hv];simp [idOf]) hblk (Y3 w b _)
         rw [he',he2]
         have:=A1s (P:=P) hinf (b:=b) (off:=0) (v:=H7 g (.w (.ag ys))) (vs:=ys.map (conc g)) rfl (by simp;omega) hh (by simp;omega) (fun u hu=>by
          obtain ⟨c,hc,rfl⟩:=List.mem_map.1 hu
          exact oneC h.heap.one fun q hq=>hys q (List.mem_flatMap.2 ⟨c,hc,hq⟩))
         rw [this]
         congr 2
         simp [hl']
     · rename_i y1
       cases ho:A4r P t with
       | false=>rw [ho] at hp;simp at hp
       | true=>
         rw [ho] at hp
         simp only [cond_true] at hp
         split at hp
         · rename_i c0 hc0
           simp only [Option.some.injEq,Prod.mk.injEq] at hp
           obtain ⟨_,hp⟩:=hp
           obtain ⟨hsz,_,i,hinf⟩:=A8z (P:=P) (w:=w) ho
           rw [A0z] at hc0
           have hoff:off<cs.length:=by
            rcases Nat.lt_or_ge off cs.length with q | q
            · exact q
            · rw [List.getElem?_eq_none q] at hc0;simp at hc0
           have hy1:∀ j∈idsC y1,j<st.nx:=by simpa [idsV,idsW] using hi2
           have hone:=oneC h.heap.one hy1
           have hset:∀ j∈(A5s cs off y1).flatMap idsC,j<st.nx:=by
            intro j hj
            rw [A3o] at hj
            obtain ⟨c,hc,hq⟩:=List.mem_flatMap.1 hj
            rcases List.mem_or_eq_of_mem_set hc with h5 | rfl
            · exact h.heap.idB _ _ hb j (List.mem_flatMap.2 ⟨c,h5,hq⟩)
            · exact hy1 j hq
           refine fin (w':=w.setRow b (((A5s cs off y1).map (conc g)).toArray)) ?_ hdst (turn _ _ hset rfl) (Same.cons (.inr (.inl ⟨_,_,_,rfl,hb⟩))) hp.symm (id:=id) (by rw [hv];simp [idOf]) hblk (Y3 w b _)
           rw [he',he2]
           have:=A1s (P:=P) hinf (b:=b) (off:=off) (v:=H7 g (.w (.c y1))) (vs:=[conc g y1]) (by simp only [H7,O4];rw [A4e hone]) (by simp [hsz]) hh (by simp;omega) (fun u hu=>by simp at hu;rw [hu];exact hone)
           rw [this]
           congr 3
           rw [A3o,List.map_set,List.set_eq_take_append_cons_drop,if_pos (by simpa using hoff)]
           simp
         · simp at hp
   · simp at hp
 · -- an element
   rename_i id sz i off y' hdst hv hy
   obtain ⟨he,hi,hep⟩:=h.ev (x:=x) (by rw [hv];simp)
   obtain ⟨he2,hi2,_⟩:=h.ev (x:=y) (by rw [hy];simp)
   rw [hv] at he hi hep
   rw [hy] at he2 hi2
   split at hp
   · rename_i k r hb
     obtain ⟨hlt,hsz⟩:=hep _ r hb
     have hown:w.ownsRow (if k=1 then w0.heap.size else 0) (RowT.ty r) (P.cellsOf (RowT.ty r)) (g id) (RowT.len r) (flat r):=h.heap.blk _ _ hb
     rcases hown.2 with ⟨_,h0⟩ | ⟨b,cap,cur,hg,_,hh,hcap,_,hcs,htk⟩
     · omega
     have hN:RowT.len r*P.cellsOf (RowT.ty r)≤cur.size:=by rw [hcs];exact Nat.mul_le_mul_right _ hcap
     have hblk:T9 (g id)=some b:=by rw [hg];rfl
     have hpos:i*sz+sz≤RowT.len r*P.cellsOf (RowT.ty r):=by rw [hsz,← Nat.succ_mul];exact Nat.mul_le_mul_right _ hlt
     have he':a.eval x = .pointer (some ⟨b,i*sz+off,none⟩):=by rw [he];simp only [H7,hg,add_lit,Nat.zero_add]
     have hcl:=RowL.len_eq (P:=P) r
     have turn:∀ (r':R) (vs:List Value),RowT.ty r'=RowT.ty r→RowT.len r'=RowT.len r→i*sz+off+vs.length≤RowT.len r*P.cellsOf (RowT.ty r)→flat r'=(flat r).take (i*sz+off)++vs++(flat r).drop (i*sz+off+vs.length)→
      HOK P w0 L st.nx ((id,.rows (k+1) r')::st.hp) g (w.setRow b (cur.toList.take (i*sz+off)++vs++cur.toList.drop (i*sz+off+vs.length)).toArray):=fun r' vs ht hl hf hfl=>
      h.heap.turn (b:=.rows (k+1) r) (b':=.rows (k+1) r') hb trivial trivial (by rw [hblk];exact Y3 w b _) (by simp [idsB])
       (by simp only [S3];rw [ht,hl,hfl];exact B8b hown hg hh hf) (fun _=>Iff.rfl) (fun _ hn=>hn)
     split at hp
     · rename_i ys
       split at hp
       · rename_i vs hvs
         cases hc:(V2 P t&&Nat.beq off 0&&Nat.beq t (RowT.ty r)) with
         | false=>rw [hc] at hp;simp at hp
         | true=>
           rw [hc] at hp
           simp only [cond_true] at hp
           split at hp
           · rename_i r' hr'
             simp only [Option.some.injEq,Prod.mk.injEq] at hp
             obtain ⟨_,hp⟩:=hp
             simp only [Bool.and_eq_true] at hc
             obtain ⟨⟨hs,h0⟩,ht⟩:=hc
             obtain ⟨fs,hu⟩:=A0v hs
             obtain ⟨inf,hinf⟩:=A6g hu
             obtain rfl:=O3 h0
             have ht':=O3 ht
             obtain ⟨hcel,hty⟩:=RowL.set_eq (P:=P) r r' i vs hr'
             have hlen':RowT.len r'=RowT.len r:=by rw [RowL.len_eq (P:=P),hcel,List.length_set,← hcl]
             have hvl:vs.length=P.cellsOf (RowT.ty r):=by
              have:vs∈RowT.cel r':=by rw [hcel];exact List.mem_set (by omega) vs
              rw [A4u P this,hty]
             have hmap:ys.map (conc g)=vs.map Sc.v:=A5m hvs
             have hfl:flat r'=(flat r).take (i*sz+0)++vs.map Sc.v++(flat r).drop (i*sz+0+(vs.map Sc.v).length):=by
              rw [flat,hcel,A6j _ (fun c hc=>A4u P hc) i vs (by omega),flat]
              simp only [List.map_append,List.map_take,List.map_drop,Nat.add_zero,List.length_map,hsz,hvl]
             refine fin ?_ hdst (turn r' (vs.map Sc.v) hty hlen' (by simp [hvl];omega) hfl) (Same.cons (.inr (.inr (.inr ⟨_,r',r,rfl,hb,hlen',hty⟩)))) hp.symm (id:=id) (by rw [hv];simp [idOf]) hblk (Y3 w b _)
             rw [he',he2]
             exact A1s (P:=P) hinf (v:=H7 g (.w (.ag ys))) (by simp only [H7,O4,Value.cells];exact hmap) (by simp [hvl,ht']) hh (by simp [hvl];omega) (fun u hu=>by
              obtain ⟨s,_,rfl⟩:=List.mem_map.1 hu;exact s.one)
           · simp at hp
       · simp at hp
     · rename_i y1
       split at hp
       · rename_i s hs
         cases ho:A4r P t with
         | false=>rw [ho] at hp;simp at hp
         | true=>
           rw [ho] at hp
           simp only [cond_true] at hp
           split at hp
           · rename_i c0 hc0
             split at hp
             · rename_i r' hr'
               simp only [Option.some.injEq,Prod.mk.injEq] at hp
               obtain ⟨_,hp⟩:=hp
               obtain ⟨hsz1,_,inf,hinf⟩:=A8z (P:=P) (w:=w) ho
               rw [A0z] at hc0
               have hel:=C0h P hlt
               have hoff:off<(RowT.elt r i).length:=by
                rcases Nat.lt_or_ge off (RowT.elt r i).length with q | q
                · exact q
                · rw [List.getElem?_eq_none q] at hc0;simp at hc0
               obtain ⟨hcel,hty⟩:=RowL.set_eq (P:=P) r r' i _ hr'
               have hlen':RowT.len r'=RowT.len r:=by rw [RowL.len_eq (P:=P),hcel,List.length_set,← hcl]
               have hfl:flat r'=(flat r).take (i*sz+off)++[s.v]++(flat r).drop (i*sz+off+[s.v].length):=by
                rw [flat,hcel,A3o,A5c _ (fun c hc=>A4u P hc) i off _ s (RowL.elt_eq (P:=P) r i hlt) (by omega),List.map_set,← flat,List.set_eq_take_append_cons_drop,if_pos (by rw [Z3 (P:=P)];have hp2:=hpos;rw [hsz] at hp2;omega),hsz]
                simp
               refine fin ?_ hdst (turn r' [s.v] hty hlen' (by simp;omega) hfl) (Same.cons (.inr (.inr (.inr ⟨_,r',r,rfl,hb,hlen',hty⟩)))) hp.symm (id:=id) (by rw [hv];simp [idOf]) hblk (Y3 w b _)
               rw [he',he2]
               have hcv:H7 g (.w (.c y1))=s.v:=A3l hs
               exact A1s (P:=P) hinf (v:=H7 g (.w (.c y1))) (by rw [hcv,A4e s.one]) (by simp [hsz1]) hh (by simp;omega) (fun u hu=>by simp at hu;rw [hu];exact s.one)
             · simp at hp
           · simp at hp
       · simp at hp
   · simp at hp
 · simp at hp
end
end Go.Proofs.YtmfgajbkcnlkcaaGreat.AI
namespace Go.Proofs.YtmfgajbkcnlkcaaGreat.AI
set_option linter.all false
open Go Go.RowKit
theorem B5l:∀ (vs:List Value) (off j:Nat) (cs:Array Value),off+j+vs.length≤cs.size→
 (vs.zipIdx j).foldl (fun cs (p:Value×Nat)=>cs.setIfInBounds (off+p.2) p.1) cs=(cs.toList.take (off+j)++vs++cs.toList.drop (off+j+vs.length)).toArray
 | [],off,j,cs,_=>by simp
 | v::vs,off,j,cs,h=>by
   have h':off+j<cs.size:=by simp at h;omega
   rw [List.zipIdx_cons,List.foldl_cons,B5l vs off (j+1) _ (by simp at h ⊢;omega)]
   congr 1
   simp only [Array.toList_setIfInBounds]
   have hl:off+j<cs.toList.length:=by simpa using h'
   rw [List.set_eq_take_append_cons_drop,if_pos hl]
   have e1:(cs.toList.take (off+j)).length=off+j:=by rw [List.length_take];omega
   have e2:(cs.toList.take (off+j)++v::cs.toList.drop (off+j+1)).take (off+(j+1))=cs.toList.take (off+j)++[v]:=by
    rw [List.take_append,e1,List.take_of_length_le (by omega),show off+(j+1)-(off+j)=1 by omega];simp
   have e3:(cs.toList.take (off+j)++v::cs.toList.drop (off+j+1)).drop (off+(j+1)+vs.length)=cs.toList.drop (off+j+(v::vs).length):=by
    rw [List.drop_append,e1,List.drop_eq_nil_of_le (by omega),show off+(j+1)+vs.length-(off+j)=vs.length+1 by omega]
    simp only [List.drop_succ_cons,List.nil_append,List.drop_drop,List.length_cons]
    congr 1;omega
   rw [e2,e3];simp
theorem B0z {place:Nat→Option (Nat×Nat)} {cells:Array Value} {i off sz:Nat} {v:Value} {vs:List Value} {rest:List (Nat×Value)} (hp:place i=some (off,sz)) (hv:v.cells.toList=vs) (hl:vs.length=sz) (hf:off+sz≤cells.size) :
 Instr.fill place cells ((i,v)::rest)=Instr.fill place (cells.toList.take off++vs++cells.toList.drop (off+sz)).toArray rest:=by
 have hs:v.cells.size=sz:=by rw [← hl,← hv];simp
 have:=B5l vs off 0 cells (by omega)
 simp only [Nat.add_zero] at this
 rw [Instr.fill,hp]
 dsimp only
 rw [if_neg (by rw [hs];simp;omega)]
 congr 1
 rw [← hl,← this,← hv,← Array.foldl_toList,Array.toList_zipIdx]
section
variable {R:Type} [RowT R] {P:Program} [RowL P R] {w0:World} {L:Nat→Prop} {g0:Nat→Value} {hp0:List (Blk R)} {st st':St R} {g:Nat→Value} {a:Act} {w w':World} {o:Oper}
variable {K:Act→World→Prop} {Q:Exit→Act→World→Prop} {ts:List Tst}
theorem A4z:∀ (fs:List Field) (n:Nat),B4w P fs n=true→∃ ps,fs.mapM (fun f=>(P.info? f.type).map fun i=>(f.offset,i.size))=some ps∧ps.length=fs.length∧∀ j,j<ps.length→ps[j]? = some (n+j,1)
 | [],n,_=>⟨[],by simp,rfl,by simp⟩
 | f::fs,n,h=>by
   simp only [B4w,Bool.and_eq_true] at h
   obtain ⟨⟨h1,h2⟩,h3⟩:=h
   obtain ⟨ps,h4,h5,h6⟩:=A4z fs (n+1) h3
   have h2':=O3 h2
   cases hi:P.info? f.type with
   | none=>simp [Program.cellsOf,hi] at h2'
   | some i=>
     have hsz:i.size=1:=by simpa [Program.cellsOf,hi] using h2'
     refine ⟨(n,1)::ps,by simp [List.mapM_cons,hi,h4,hsz,O3 h1],by simp [h5],fun j hj=>?_⟩
     cases j with
     | zero=>simp
     | succ j=>rw [List.getElem?_cons_succ,h6 j (by simpa using hj)];congr 2;omega
theorem B4x (h:Inv P w0 L g0 hp0 st g a w) {place:Nat→Option (Nat×Nat)}:∀ (ps:List (Nat×Operand)) (cs cs':List C),parts st ps cs=some cs'→(∀ j,j<cs.length→place j=some (j,1))→(∀ id∈cs.flatMap idsC,id<st.nx)→
 Instr.fill place (cs.map (conc g)).toArray (ps.map fun p=>(p.1,a.eval p.2))=some (cs'.map (conc g)).toArray∧(∀ id∈cs'.flatMap idsC,id<st.nx)
 | [],cs,cs',hp,_,hi=>by simp only [parts,Option.some.injEq] at hp;subst hp;exact ⟨rfl,hi⟩
 | (i,x)::ps,cs,cs',hp,hpl,hi=>by
   simp only [parts] at hp
   split at hp
   · rename_i y hy
     split at hp
     · rename_i c0 hc0
       rw [A0z] at hc0
       have hlt:i<cs.length:=by
        rcases Nat.lt_or_ge i cs.length with q | q
        · exact q
        · rw [List.getElem?_eq_none q] at hc0;simp at hc0
       obtain ⟨he,hids,_⟩:=h.ev (x:=x) (by rw [hy];simp)
       rw [hy] at he hids
       have hy1:∀ j∈idsC y,j<st.nx:=by simpa [idsV,idsW] using hids
       rw [A3o] at hp
       obtain ⟨h1,h2⟩:=B4x h ps (cs.set i y) cs' hp (by simpa using hpl) (fun j hj=>by
        obtain ⟨c,hc,hq⟩:=List.mem_flatMap.1 hj
        rcases List.mem_or_eq_of_mem_set hc with h5 | rfl
        · exact hi j (List.mem_flatMap.2 ⟨c,h5,hq⟩)
        · exact hy1 j hq)
       refine ⟨?_,h2⟩
       rw [List.map_cons,B0z (hpl i hlt) (v:=a.eval x) (vs:=[conc g y]) (by rw [he];simp only [H7,O4];rw [A4e (oneC h.heap.one hy1)]) rfl (by simp;omega)]
       rw [← h1]
       congr 2
       rw [List.map_set,List.set_eq_take_append_cons_drop,if_pos (by simpa using hlt)]
       simp
     · simp at hp
   · simp at hp
omit [RowL P R] in
theorem A6a {st1 st:St R} (h:∀ x,AI.ev st1 x=AI.ev st x):∀ (ps:List (Nat×Operand)) (cs:List C),parts st1 ps cs=parts st ps cs
 | [],_=>rfl
 | (i,x)::ps,cs=>by
   have ih:=A6a h ps
   simp only [parts,h x,ih]
theorem B6a {t:TypeId} {ps:Array (Nat×Operand)} (hop:o.op = .build t ps) (h:Inv P w0 L g0 hp0 st g a w) {cs cs':List C} {st1:St R} (hz:A4y P t st=some (st1,cs)) (hps:parts st ps.toList cs=some cs')
 (hpl:B4v P t cs.length=true) (hp:st1.put o.dst (.w (.ag cs'))=some st'):Eff P w0 L g0 hp0 st st' g a w o:=by
 obtain ⟨g1,fs,i,z,h1,hu,hi,hiz,hc,hids,hev,hg1,_⟩:=A9r h hz
 unfold B4v at hpl
 rw [hu] at hpl
 simp only [Bool.and_eq_true] at hpl
 obtain ⟨hpl,hlen⟩:=hpl
 have hlen':=O3 hlen
 obtain ⟨pl,hm,hpln,hplj⟩:=A4z fs.toList 0 hpl
 have hparts:parts st1 ps.toList cs=some cs':=by
  rw [← hps];exact A6a hev _ _
 obtain ⟨hf,hids'⟩:=B4x h1 (place:=(pl.toArray[·]?)) ps.toList cs cs' hparts (fun j hj=>by
  have hj':j<pl.length:=by rw [hpln];simp;omega
  have:=hplj j hj'
  simpa using this) hids
 have hb:P.built t (ps.map fun (i,x)=>(i,a.eval x)).toList=some (cs'.map (conc g1)).toArray:=by
  unfold Program.built
  simp only [hi,hu,hiz,hm,Value.cells]
  rw [← hf]
  congr 1
  · rw [hc]
  · simp
 refine B1d (g':=g1) (v:=.agg (cs'.map (conc g1)).toArray) (w':=w) (by rw [hop];rfl) (.inl ?_) (h1.put hp (fun _=>rfl) (by simpa [idsV,idsW] using hids') trivial) hg1 (Tch.refl _ _ _)
 unfold execOp;rw [hop]
 simp [run_build w t _ _ hb]
theorem B5r (h:Inv P w0 L g0 hp0 st g a w) {sz:Nat}:∀ (ps:List (Nat×Operand)) (n:Nat) (r r':R) (cells:Array Value),elems st ps n r=some r'→n=RowT.len r→P.cellsOf (RowT.ty r)=sz→(n+ps.length)*sz≤cells.size→cells.toList.take (n*sz)=flat r→
 ∃ cells',Instr.fill (fun i=>some (i*sz,sz)) cells (ps.map fun p=>(p.1,a.eval p.2))=some cells'∧cells'.size=cells.size∧cells'.toList.take ((n+ps.length)*sz)=flat r'∧RowT.len r'=n+ps.length∧RowT.ty r'=RowT.ty r
 | [],n,r,r',cells,he,hn,hs,hf,ht=>by
   simp only [elems,Option.some.injEq] at he;subst he
   exact ⟨cells,rfl,rfl,by simpa using ht,by simp [hn],rfl⟩
 | (i,x)::ps,n,r,r',cells,he,hn,hs,hf,ht=>by
   simp only [elems] at he
   cases hi:Nat.beq i n with
   | false=>rw [hi] at he;simp at he
   | true=>
     rw [hi] at he
     obtain rfl:=O3 hi
     simp only [cond_true] at he
     split at he
     · rename_i y hy
       split at he
       · rename_i vs hvs
         split at he
         · rename_i r1 hr1
           obtain ⟨hcel,hty⟩:=RowL.snoc_eq (P:=P) r r1 vs hr1
           have hlen:RowT.len r1=i+1:=by rw [RowL.len_eq (P:=P),hcel,List.length_append,← RowL.len_eq (P:=P),← hn];rfl
           have hvl:vs.length=sz:=by
            have:vs∈RowT.cel r1:=by rw [hcel];simp
            rw [A4u P this,hty,hs]
           have hfl:flat r1=flat r++vs.map Sc.v:=by simp [flat,hcel]
           obtain ⟨hev,hids,_⟩:=h.ev (x:=x) (by rw [hy];simp)
           rw [hy] at hev hids
           have hc:(a.eval x).cells.toList=vs.map Sc.v:=by
            rw [hev];simp only [H7];rw [C5z h.heap.one (by simpa [idsV] using hids)];exact A5m hvs
           have hsz:(i+(ps.length+1))*sz≤cells.size:=by simpa using hf
           have hsz2:i*sz+sz≤cells.size:=by rw [← Nat.succ_mul];exact Nat.le_trans (Nat.mul_le_mul_right _ (by omega)) hsz
           have e1:(cells.toList.take (i*sz)).length=i*sz:=by rw [List.length_take,Array.length_toList];omega
           obtain ⟨cells',h1,h2,h3,h4,h5⟩:=B5r h ps (i+1) r1 r' (cells.toList.take (i*sz)++vs.map Sc.v++cells.toList.drop (i*sz+sz)).toArray he hlen.symm (by rw [hty,hs])
            (by
              simp only [List.size_toArray,List.length_append,e1,List.length_map,List.length_drop,Array.length_toList,hvl]
              rw [show i+1+ps.length=i+(ps.length+1) by omega];omega)
            (by
              rw [hfl,← ht,Nat.succ_mul,List.take_append,List.take_of_length_le (by simp [hvl];omega)]
              simp [hvl];omega)
           refine ⟨cells',?_,?_,?_,by rw [h4,List.length_cons];omega,h5.trans hty⟩
           · rw [List.map_cons,B0z (off:=i*sz) (sz:=sz) rfl hc (by simp [hvl]) hsz2];exact h1
           · rw [h2];simp only [List.size_toArray,List.length_append,e1,List.length_map,List.length_drop,Array.length_toList,hvl];omega
           · rw [← h3,List.length_cons];congr 2;omega
         · simp at he
       · simp at he
     · simp at he
theorem A8b {t e:TypeId} {n:Nat} {ps:Array (Nat×Operand)} (hop:o.op = .buildSlice t n ps) (h:Inv P w0 L g0 hp0 st g a w) (hu:P.underlying t=some (.slice e)) {r0 r:R} (hr0:RowT.nil e=some r0)
 (hr:elems st ps.toList 0 r0=some r) (hn:n=ps.size) (hb:n*P.cellsOf e≤16777216) (hp:AI.newRows st o.dst r=some st'):Eff P w0 L g0 hp0 st st' g a w o:=by
 obtain ⟨hc0,ht0⟩:=RowL.nil_eq (P:=P) e r0 hr0
 have hl0:RowT.len r0=0:=by rw [RowL.len_eq (P:=P),hc0];rfl
 obtain ⟨i,z,hi,hz,hzs,hsp,_,_⟩:=RowL.info (P:=P) r0
 rw [ht0] at hi
 have hce:P.cellsOf e=i.size:=by simp [Program.cellsOf,hi]
 have key:∀ cells:Array Value,cells.size=n*P.cellsOf e→∃ cells',Instr.fill (fun j=>some (j*P.cellsOf e,P.cellsOf e)) cells (ps.toList.map fun p=>(p.1,a.eval p.2))=some cells'∧cells'.size=n*P.cellsOf e∧cells'.toList=flat r∧RowT.len r=n∧RowT.ty r=e:=by
  intro cells hs
  obtain ⟨cells',h1,h2,h3,h4,h5⟩:=B5r h (sz:=P.cellsOf e) ps.toList 0 r0 r cells hr hl0.symm (by rw [ht0]) (by rw [hs,hn];simp) (by simp [flat,hc0])
  refine ⟨cells',h1,by rw [h2,hs],?_,by rw [h4,hn];simp,h5.trans ht0⟩
  rw [← h3,List.take_of_length_le]
  rw [Array.length_toList,h2,hs,hn];simp
 have run:∃ cells',(Instr.buildSlice t n (ps.map fun (i,x)=>(i,a.eval x))).run P w = .ok (.slice (some ⟨w.heap.size,0,none⟩) n n) (w.alloc (.cells cells' e))∧cells'.size=n*P.cellsOf e∧cells'.toList=flat r∧RowT.len r=n∧RowT.ty r=e:=by
  have hlim:¬ (16777216<n*P.cellsOf e):=by omega
  by_cases h0:n*P.cellsOf e=0
  · obtain ⟨cells',h1,h2⟩:=key #[] (by simp [h0])
    refine ⟨cells',?_,h2⟩
    have hn0:n=0:=by
     rcases Nat.mul_eq_zero.1 h0 with q | q
     · exact q
     · rw [hce] at q;omega
    have hps:ps=#[]:=Array.eq_empty_of_size_eq_zero (by rw [← hn,hn0])
    subst hps
    subst hn0
    simp only [List.map_nil,Instr.fill,Option.some.injEq] at h1
    subst h1
    simp [Instr.buildSlice,run_underlying hu,A2t hi,newRow,Instr.fill,Array.range_zero']
  · obtain ⟨cells',h1,h2⟩:=key ((Array.range (n*P.cellsOf e)).map fun j=>z.cells[j % z.cells.size]!) (by simp)
    refine ⟨cells',?_,h2⟩
    simp [Instr.buildSlice,run_underlying hu,A2t hi,hlim,h0,newRow,B4n hi hz,h1]
 obtain ⟨cells',hrun,hsz,hfl,hlen,hty⟩:=run
 have hmax:n≤maxLen:=by
  have:n≤n*P.cellsOf e:=Nat.le_mul_of_pos_right n (by rw [hce];omega)
  simp only [maxLen];omega
 have hown:=World.ownsRow_lit (base:=w0.heap.size) (e:=e) (size:=P.cellsOf e) w cells' n h.heap.frame.size hmax hsz
 obtain ⟨g',hg',hg2⟩:=h.newRows hp (World.grownBy_alloc w (.cells cells' e) none) (by simp) (c:=.slice (some ⟨w.heap.size,0,none⟩) n n) (by rw [hty,hlen,← hfl];exact hown) (fun m hm=>.inl (by simp [T9] at hm;omega))
 refine B1d (w':=w.alloc (.cells cells' e)) (by rw [hop];rfl) (.inl ?_) hg' hg2 (Tch.grown (World.grownBy_alloc w _ none) (by simp))
 unfold execOp;rw [hop]
 simp [hrun]
end
end Go.Proofs.YtmfgajbkcnlkcaaGreat.AI
namespace Go.Proofs.YtmfgajbkcnlkcaaGreat.AI
set_option linter.all false
open Go Go.RowKit
section
variable {R:Type} [RowT R] {P:Program} [RowL P R] {w0:World} {L:Nat→Prop} {g0:Nat→Value} {hp0:List (Blk R)} {st st':St R} {g:Nat→Value} {a:Act} {w w':World} {o:Oper}
variable {K:Act→World→Prop} {Q:Exit→Act→World→Prop} {ts:List Tst}
theorem B5w {op:BinOp} {u v:V} {c:C} (t:TypeId) (h:binV (A7t P t) op u v=some (ts,c)) (ht:∀ t∈ts,t.p):(∀ x y,(eqGuard op t x y (H7 g u) (H7 g v)).run P w = .ok () w)∧(binOp op t (H7 g u) (H7 g v)).run P w = .ok (conc g c) w∧idsC c=[]:=by
 unfold binV at h
 split at h
 · split at h
   · rename_i hk
     subst hk
     obtain ⟨h1,h2⟩:=C4x (g:=g) (P:=P) (w:=w) h ht t
     refine ⟨fun x y=>?_,h1,h2⟩
     simp only [H7,O4,conc,Sc.v,eqGuard]
     split<;>simp
   · simp at h
 · rename_i x y _
   split at h
   · rename_i a b hx hy
     have ex:=A3l (g:=g) hx
     have ey:=A3l (g:=g) hy
     simp only [Sc.v] at ex ey
     have hu:P.underlying t=some .bool:=by
      cases hb:A7t P t with
      | false=>rw [hb] at h;simp at h
      | true=>unfold A7t at hb;split at hb<;>first | assumption | simp at hb
     have hq:=run_equal_bool (P:=P) w t a b hu
     rw [show A7t P t=true by simp [A7t,hu]] at h
     simp only [cond_true] at h
     split at h
     · simp only [Option.some.injEq,Prod.mk.injEq] at h;obtain ⟨rfl,rfl⟩:=h
       refine ⟨fun x' y'=>?_,?_,rfl⟩
       · simp only [H7,O4,ex,ey,eqGuard];split<;>simp
       · show (binOp .eql t (conc g x) (conc g y)).run P w=_
         have hq':(Op.equal t (.bool a) (.bool b)).run P w = .ok (a == b) w:=hq
         rw [ex,ey];simp [binOp,conc,Sc.v,hq',bne]
     · simp only [Option.some.injEq,Prod.mk.injEq] at h;obtain ⟨rfl,rfl⟩:=h
       refine ⟨fun x' y'=>?_,?_,rfl⟩
       · simp only [H7,O4,ex,ey,eqGuard];split<;>simp
       · show (binOp .neq t (conc g x) (conc g y)).run P w=_
         have hq':(Op.equal t (.bool a) (.bool b)).run P w = .ok (a == b) w:=hq
         rw [ex,ey];simp [binOp,conc,Sc.v,hq',bne]
     · simp at h
   · simp at h
 · simp at h
theorem B7b {op:UnOp} {v:V} {c:C} (h:unV op v=some c):(Op.unary op (H7 g v)).run P w = .ok (conc g c) w∧idsC c=[]:=by
 unfold unV at h
 split at h
 · rename_i x
   split at h<;>simp only [Option.some.injEq,reduceCtorEq] at h<;>subst h<;>simp [H7,O4,conc,Sc.v,Op.unary,Op.intArith,idsC,B6y]
 · simp at h
theorem C4a {fs:Array Field} {f k:Nat} (h:B8e P fs.toList f=some k):∃ x i,fs[f]? = some x∧P.info? x.type=some i∧P.cellsOf x.type=1∧x.offset=k:=by
 unfold B8e at h
 split at h
 · rename_i x hx
   rw [A0z] at hx
   cases hb:Nat.beq (P.cellsOf x.type) 1 with
   | false=>rw [hb] at h;simp at h
   | true=>
     rw [hb] at h
     simp only [cond_true,Option.some.injEq] at h
     have hc:=O3 hb
     cases hi:P.info? x.type with
     | none=>simp [Program.cellsOf,hi] at hc
     | some i=>exact ⟨x,i,by simpa using hx,hi,hc,h⟩
 · simp at h
theorem A5v {s:TypeId} {fs:Array Field} {f k:Nat} (hu:P.underlying s=some (.struct fs)) (hf:B8e P fs.toList f=some k) (ad:Addr):(Instr.fieldAt s (.pointer (some ad)) f).run P w = .ok (.pointer (some (ad.add k))) w:=by
 obtain ⟨x,i,h1,h2,h3,h4⟩:=C4a hf
 subst h4
 simp [Instr.fieldAt,run_underlying hu,h1,Instr.sureAddr,fieldPlace,A2t h2,h3]
theorem A9v {s:TypeId} {x:Operand} {f:Nat} (hop:o.op = .fieldAddr s x f) (h:Inv P w0 L g0 hp0 st g a w) (hp:pop P o st=some (ts,st')):Eff P w0 L g0 hp0 st st' g a w o:=by
 unfold pop at hp
 rw [hop] at hp
 dsimp only at hp
 have hex:execOp a.eval o=(do pure (Next.value (← Instr.fieldAt s (a.eval x) f))):=by unfold execOp;rw [hop]
 split at hp
 · rename_i fs id off hu hv
   split at hp
   · rename_i k t' cs hk hb
     cases h0:Nat.beq off 0 with
     | false=>rw [h0] at hp;simp at hp
     | true=>
       rw [h0] at hp
       obtain rfl:=O3 h0
       simp only [cond_true] at hp
       split at hp<;>simp only [Option.some.injEq,Prod.mk.injEq,reduceCtorEq] at hp
       rename_i s1 hs1
       obtain ⟨_,rfl⟩:=hp
       obtain ⟨he,hi,_⟩:=h.ev (x:=x) (by rw [hv];simp)
       rw [hv] at he hi
       obtain ⟨b,hg,_,_⟩:=h.heap.blk _ _ hb
       refine A0w (v:=.pointer (some ⟨b,k,none⟩)) (h.put hs1 (fun _=>by simp only [H7,hg]) (by simpa [idsV] using hi) trivial) (S5 h o) (fun w1 _=>?_)
       rw [hex,he]
       simp only [H7,hg]
       simp [A5v hu hk,add_lit]
   · simp at hp
 · rename_i fs id sz i off hu hv
   split at hp
   · rename_i k kk r hk hb
     cases h0:Nat.beq off 0 with
     | false=>rw [h0] at hp;simp at hp
     | true=>
       rw [h0] at hp
       obtain rfl:=O3 h0
       simp only [cond_true] at hp
       split at hp<;>simp only [Option.some.injEq,Prod.mk.injEq,reduceCtorEq] at hp
       rename_i s1 hs1
       obtain ⟨_,rfl⟩:=hp
       obtain ⟨he,hi,hep⟩:=h.ev (x:=x) (by rw [hv];simp)
       rw [hv] at he hi hep
       obtain ⟨hlt,_⟩:=hep _ r hb
       obtain ⟨ad,n,cap,hg,_,_⟩:=A4j (h.heap.blk _ _ hb) (Nat.lt_of_le_of_lt (Nat.zero_le _) hlt)
       refine A0w (v:=.pointer (some (ad.add (i*sz+k)))) (h.put hs1 (fun _=>by simp only [H7,hg]) (by simpa [idsV] using hi) hep) (S5 h o) (fun w1 _=>?_)
       rw [hex,he]
       simp only [H7,hg]
       simp [A5v hu hk,add_add]
   · simp at hp
 · simp at hp
theorem B3o {t e:TypeId} {inf:TypeInfo} (hu:P.underlying t=some (.slice e)) (hi:P.info? e=some inf) {ad:Addr} {n cap:Nat} {k:IntKind} {i:Int} (h0:0≤i) (h1:i<n) :
 (Instr.indexAt t (.slice (some ad) n cap) (.int k i)).run P w = .ok (.pointer (some (ad.add (i.toNat*inf.size)))) w:=by
 simp [Instr.indexAt,run_underlying hu,asIntOf,h0,h1,sizeOf,typeInfo,hi]
theorem A9u {t:TypeId} {x y:Operand} (hop:o.op = .indexAddr t x y) (h:Inv P w0 L g0 hp0 st g a w) (hp:pop P o st=some (ts,st')) (ht:∀ t∈ts,t.p):Eff P w0 L g0 hp0 st st' g a w o:=by
 unfold pop at hp
 rw [hop] at hp
 dsimp only at hp
 have hex:execOp a.eval o=(do pure (Next.value (← Instr.indexAt t (a.eval x) (a.eval y)))):=by unfold execOp;rw [hop]
 split at hp
 · rename_i e id k n hu hv hy
   split at hp
   · rename_i kk r inf hb hinf
     cases hbe:Nat.beq e (RowT.ty r) with
     | false=>rw [hbe] at hp;simp at hp
     | true=>
     rw [hbe] at hp
     simp only [cond_true] at hp
     have hte:=O3 hbe
     split at hp
     · rename_i s1 hs1
       simp only [Option.some.injEq,Prod.mk.injEq] at hp
       obtain ⟨rfl,rfl⟩:=hp
       have h0:0≤n:=ht ⟨0≤n,inferInstance⟩ (by simp)
       have h1:n<(RowT.len r:Nat):=ht ⟨n<(RowT.len r:Nat),inferInstance⟩ (by simp)
       obtain ⟨he,hi,_⟩:=h.ev (x:=x) (by rw [hv];simp)
       obtain ⟨he2,_,_⟩:=h.ev (x:=y) (by rw [hy];simp)
       rw [hv] at he hi
       rw [hy] at he2
       have hlt:n.toNat<RowT.len r:=by omega
       obtain ⟨ad,m,cap,hg,hm,_⟩:=A4j (h.heap.blk _ _ hb) (by omega)
       refine A0w (v:=.pointer (some (ad.add (n.toNat*inf.size)))) (h.put hs1 (fun _=>by simp only [H7,hg,Nat.add_zero]) (by simpa [idsV,idsW,idsC] using hi) (fun k' r' hr'=>?_)) (S5 h o) (fun w1 _=>?_)
       · rw [hb] at hr'
         simp only [Option.some.injEq,Blk.rows.injEq] at hr'
         obtain ⟨_,rfl⟩:=hr'
         exact ⟨hlt,by rw [← hte];simp [Program.cellsOf,hinf]⟩
       · rw [hex,he,he2]
         simp only [H7,O4,conc,Sc.v,hg]
         simp [B3o hu hinf h0 (show n<(m:Nat) by rw [hm];exact h1)]
     · simp at hp
   · simp at hp
 · simp at hp
theorem C9j {n bytes:Nat} (h:n<lim bytes) (hb:0<bytes):n*bytes≤140737488355328:=by
 unfold lim at h
 have h1:n≤140737488355328/bytes:=by omega
 exact Nat.le_trans (Nat.mul_le_mul_right _ h1) (Nat.div_mul_le_self _ _)
theorem C7h {n bytes:Nat} (h:n<limM bytes) (hb:0<bytes):n*bytes≤281474976710656:=by
 unfold limM at h
 have h1:n≤281474976710656/bytes:=by omega
 exact Nat.le_trans (Nat.mul_le_mul_right _ h1) (Nat.div_mul_le_self _ _)
theorem A7s {n b:Nat} (h:0<b):n≤n*b:=Nat.le_mul_of_pos_right n h
theorem A9t {t:TypeId} {x y:Operand} (hop:o.op = .makeSlice t x y) (h:Inv P w0 L g0 hp0 st g a w) (hp:pop P o st=some (ts,st')) (ht:∀ t∈ts,t.p):Eff P w0 L g0 hp0 st st' g a w o:=by
 unfold pop at hp
 rw [hop] at hp
 dsimp only at hp
 have hex:execOp a.eval o=(do pure (Next.value (← Instr.makeSlice t (a.eval x) (a.eval y)))):=by unfold execOp;rw [hop]
 split at hp
 · rename_i e n m hu hv hy
   split at hp
   · rename_i r inf hr hinf
     split at hp
     · rename_i s1 hs1
       simp only [Option.some.injEq,Prod.mk.injEq] at hp
       obtain ⟨rfl,rfl⟩:=hp
       obtain rfl:n=m:=ht ⟨n=m,inferInstance⟩ (by simp)
       have h0:0≤n:=ht ⟨0≤n,inferInstance⟩ (by simp)
       have h1:n<(limM inf.bytes:Nat):=ht ⟨n<(limM inf.bytes:Nat),inferInstance⟩ (by simp)
       obtain ⟨he,_,_⟩:=h.ev (x:=x) (by rw [hv];simp)
       obtain ⟨he2,_,_⟩:=h.ev (x:=y) (by rw [hy];simp)
       rw [hv] at he
       rw [hy] at he2
       obtain ⟨hty,i,z,cs,hi,hz,hzc,hcel⟩:=RowL.zer_eq (P:=P) e n.toNat r hr
       obtain ⟨i',z',hi',hz',hzs,hsp,hbp,_⟩:=RowL.info (P:=P) r
       rw [hty,hi] at hi'
       injection hi' with e1;subst e1
       rw [hz] at hz'
       injection hz' with e2;subst e2
       rw [hi] at hinf
       injection hinf with e3;subst e3
       have hbytes:=C7h (n:=n.toNat) (bytes:=i.bytes) (by omega) hbp
       have hn:=A7s (n:=n.toNat) hbp
       have hrun:=run_make (P:=P) w t e i z hu hi hz .i64 .i64 n n h0 (Int.le_refl _) (by
        have:((i.bytes*n.toNat:Nat):Int)=(i.bytes:Int)*n:=by rw [Int.natCast_mul,Int.toNat_of_nonneg h0]
        rw [← this,Nat.mul_comm];omega) (by omega)
       have hce:P.cellsOf e=i.size:=by simp [Program.cellsOf,hi]
       have hlen:RowT.len r=n.toNat:=by rw [RowL.len_eq (P:=P),hcel];simp
       have hcl:cs.length=i.size:=by rw [← hzs];have:=congrArg List.length hzc;simpa using this.symm
       have hmc:(madeCells z.cells (n.toNat*i.size)).toList=flat r:=by
        simp only [madeCells,flat,hcel,hzs]
        apply List.ext_getElem?
        intro j
        by_cases hj:j<n.toNat*i.size
        · have hd:j/i.size<n.toNat:=Nat.div_lt_of_lt_mul (by rw [Nat.mul_comm];exact hj)
          have hm:j % i.size<i.size:=Nat.mod_lt _ hsp
          have hj2:j=j/i.size*i.size+j % i.size:=by rw [Nat.mul_comm];exact (Nat.div_add_mod j i.size).symm
          have hfa:=A4t (List.replicate n.toNat cs) (n:=i.size) (fun c hc=>by rw [List.eq_of_mem_replicate hc];exact hcl) (j/i.size) (j % i.size) hm
          rw [← hj2] at hfa
          rw [List.getElem?_map,hfa,List.getElem?_replicate,if_pos hd]
          have hzl:z.cells.toList[j % i.size]? = (cs.map Sc.v)[j % i.size]?:=by rw [hzc]
          have hzlt:j % i.size<z.cells.size:=by rw [hzs];exact hm
          simp only [Option.bind_some,Array.toList_map,List.getElem?_map]
          rw [List.getElem?_map] at hzl
          rw [← hzl]
          simp [hj,hzlt,Array.getElem?_eq_getElem hzlt]
        · have h3:((List.replicate n.toNat cs).flatten.map Sc.v).length≤j:=by simp [hcl];omega
          rw [List.getElem?_eq_none h3,List.getElem?_eq_none (by simp;omega)]
       have hown:=World.ownsRow_lit (base:=w0.heap.size) (e:=e) (size:=P.cellsOf e) w (madeCells z.cells (n.toNat*i.size)) n.toNat h.heap.frame.size (by simp only [maxLen];omega) (by rw [size_madeCells,hce])
       obtain ⟨g',hg',hg2⟩:=h.newRows hs1 (World.grownBy_alloc w (.cells (madeCells z.cells (n.toNat*i.size)) e) none) (by simp) (c:=.slice (some ⟨w.heap.size,0,none⟩) n.toNat n.toNat) (by rw [hty,hlen,← hmc];exact hown) (fun m hm=>.inl (by simp [T9] at hm;omega))
       refine B1d (w':=w.alloc (.cells (madeCells z.cells (n.toNat*i.size)) e)) (by rw [hop];rfl) (.inl ?_) hg' hg2 (Tch.grown (World.grownBy_alloc w _ none) (by simp))
       rw [hex,he,he2]
       simp only [H7,O4,conc,Sc.v]
       simp [hrun]
     · simp at hp
   · simp at hp
 · simp at hp
theorem B0v {α:Type} {l:List α} {i:Nat} {x:α} (h:l[i]? = some x):i<l.length:=by
 rcases Nat.lt_or_ge i l.length with q | q
 · exact q
 · rw [List.getElem?_eq_none q] at h;simp at h
theorem B7n {id kk:Nat} {r:R} (hbs:S3 P g w w0.heap.size id (.rows kk r)):∃ A cap,g id = .slice A (RowT.len r) cap∧RowT.len r≤cap:=by
 cases kk with
 | zero=>obtain ⟨A,cap,hg,hc,_⟩:=hbs;exact ⟨A,cap,hg,hc⟩
 | succ kk=>
    rcases hbs.2 with ⟨hg,h0⟩ | ⟨b,cap,cur,hg,_,_,hnc,_⟩
    · exact ⟨none,0,by rw [hg,h0],by omega⟩
    · exact ⟨_,cap,hg,hnc⟩
theorem C3e {t:TypeId} {x:Operand} {lo hi mx:Option Operand} (hop:o.op = .slice t x lo hi mx) (h:Inv P w0 L g0 hp0 st g a w) (hp:pop P o st=some (ts,st')) (ht:∀ t∈ts,t.p):Eff P w0 L g0 hp0 st st' g a w o:=by
 unfold pop at hp
 rw [hop] at hp
 dsimp only at hp
 have hex:execOp a.eval o=(do pure (Next.value (← Instr.sliceAt t (a.eval x) (lo.map a.eval) (hi.map a.eval) (mx.map a.eval)))):=by unfold execOp;rw [hop]
 split at hp
 case h_2=>simp at hp
 rename_i e id hu hv
 split at hp
 case h_2=>simp at hp
 rename_i kk r inf hb hinf
 cases hbe:Nat.beq e (RowT.ty r) with
 | false=>rw [hbe] at hp;simp at hp
 | true=>
 rw [hbe] at hp
 simp only [cond_true] at hp
 have hte:=O3 hbe
 obtain ⟨hev,hid,_⟩:=h.ev (x:=x) (by rw [hv];simp)
 rw [hv] at hev hid
 simp only [H7,O4,conc] at hev
 obtain ⟨A,cap,hg,hcap⟩:=B7n (h.heap.blk _ _ hb)
 have hpe:P.elem t=e:=by simp [Program.elem,hu]
 have hpu:P.underlying t=some (.slice (P.elem t)):=by rw [hpe];exact hu
 have hsz:∀ w1:World,(sizeOf (P.elem t)).run P w1 = .ok inf.size w1:=fun w1=>by rw [hpe];simp [sizeOf,typeInfo,hinf]
 have hce:inf.size=P.cellsOf (RowT.ty r):=by rw [← hte];simp [Program.cellsOf,hinf]
 split at hp
 · rename_i y
   split at hp
   case h_2=>simp at hp
   rename_i n hy
   split at hp
   case h_2=>simp at hp
   rename_i s1 hs1
   simp only [Option.some.injEq,Prod.mk.injEq] at hp
   obtain ⟨rfl,rfl⟩:=hp
   have h0:0≤n:=ht ⟨0≤n,inferInstance⟩ (by simp)
   have h1:n≤(RowT.len r:Nat):=ht ⟨n≤(RowT.len r:Nat),inferInstance⟩ (by simp)
   obtain ⟨he2,_,_⟩:=h.ev (x:=y) (by rw [hy];simp)
   rw [hy] at he2
   refine A0w (v:=sliced A 0 n.toNat cap inf.size) (h.put hs1 (fun _=>by simp only [H7,hg,sliced,Nat.sub_zero]) (by simpa [idsV,idsW,idsC] using hid) (fun k' r' hr'=>?_)) (S5 h o) (fun w1 _=>?_)
   · rw [hb] at hr'
     simp only [Option.some.injEq,Blk.rows.injEq] at hr'
     obtain ⟨_,rfl⟩:=hr'
     exact ⟨by omega,hce⟩
   · rw [hex,hev,hg]
     simp only [Option.map_some,Option.map_none,he2,H7,O4,conc,Sc.v]
     have:=run_slice_h (P:=P) (w:=w1) t A (RowT.len r) cap hpu .i64 n h0 (by omega)
     simp [run_sliceAt_slice w1 t _ _ _ _ hpu,this,hsz,Result.andThen]
 · rename_i y
   split at hp
   case h_2=>simp at hp
   rename_i n hy
   split at hp
   case h_2=>simp at hp
   rename_i s1 hs1
   simp only [Option.some.injEq,Prod.mk.injEq] at hp
   obtain ⟨rfl,rfl⟩:=hp
   have h0:0≤n:=ht ⟨0≤n,inferInstance⟩ (by simp)
   have h1:n≤(RowT.len r:Nat):=ht ⟨n≤(RowT.len r:Nat),inferInstance⟩ (by simp)
   obtain ⟨he2,_,_⟩:=h.ev (x:=y) (by rw [hy];simp)
   rw [hy] at he2
   refine A0w (v:=sliced A n.toNat (RowT.len r) cap inf.size) (h.put hs1 (fun _=>by simp only [H7,hg,sliced]) (by simpa [idsV,idsW,idsC] using hid) (fun k' r' hr'=>?_)) (S5 h o) (fun w1 _=>?_)
   · rw [hb] at hr'
     simp only [Option.some.injEq,Blk.rows.injEq] at hr'
     obtain ⟨_,rfl⟩:=hr'
     exact ⟨by omega,hce⟩
   · rw [hex,hev,hg]
     simp only [Option.map_some,Option.map_none,he2,H7,O4,conc,Sc.v]
     have:=run_slice_l (P:=P) (w:=w1) t A (RowT.len r) cap hpu .i64 n h0 (by omega)
     simp [run_sliceAt_slice w1 t _ _ _ _ hpu,this,hsz,Result.andThen]
 · simp at hp
theorem C6n {id kk lo n:Nat} {s:R} (hbs:S3 P g w w0.heap.size id (.rows kk s)) (hle:lo+n≤RowT.len s):RowT.len (RowT.sub s lo n)=n∧(0<n→∃ ad cap,H7 g (.sub id (P.cellsOf (RowT.ty s)) lo n) = .slice (some ad) n cap∧∀ j u,(flat (RowT.sub s lo n))[j]? = some u→w.cell? (ad.add j)=some u)∧(n=0→∃ A cap,H7 g (.sub id (P.cellsOf (RowT.ty s)) lo n) = .slice A 0 cap):=by
 obtain ⟨hcel,hty⟩:=RowL.sub_eq (P:=P) s lo n
 have hlen:RowT.len (RowT.sub s lo n)=n:=by
  rw [RowL.len_eq (P:=P),hcel,List.length_take,List.length_drop,← RowL.len_eq (P:=P)];omega
 obtain ⟨A,cap,hg,hcap⟩:=B7n hbs
 refine ⟨hlen,fun h0=>?_,fun h0=>⟨if cap=lo then A else A.map (·.add (lo*P.cellsOf (RowT.ty s))),cap-lo,by subst h0;simp only [H7,hg]⟩⟩
 obtain ⟨ad,m,cap',hg',hm,hcell⟩:=A4j hbs (show 0<RowT.len s by omega)
 rw [hg] at hg'
 injection hg' with e1 e2 e3;subst e1;subst e3
 refine ⟨ad.add (lo*P.cellsOf (RowT.ty s)),cap-lo,by simp only [H7,hg];rw [if_neg (by omega)];rfl,fun j u hj=>?_⟩
 rw [add_add]
 refine hcell _ u ?_
 have hsz:=C5d P s
 have hq:=A9a P (r:=RowT.sub s lo n) (i:=j/P.cellsOf (RowT.ty s)) (j:=j % P.cellsOf (RowT.ty s))
 have hjl:=B0v hj
 rw [Z3 (P:=P),hlen,hty] at hjl
 have hi:j/P.cellsOf (RowT.ty s)<n:=(Nat.div_lt_iff_lt_mul hsz).2 hjl
 have hmod:=Nat.mod_lt j hsz
 have hj2:j/P.cellsOf (RowT.ty s)*P.cellsOf (RowT.ty s)+j % P.cellsOf (RowT.ty s)=j:=by rw [Nat.mul_comm];exact Nat.div_add_mod j _
 have h1:=hq (by rw [hlen];exact hi) (by rw [hty];exact hmod)
 rw [hty,hj2,hj] at h1
 have h2:=A9a P (r:=s) (i:=lo+j/P.cellsOf (RowT.ty s)) (j:=j % P.cellsOf (RowT.ty s)) (by omega) hmod
 have h3:RowT.elt (RowT.sub s lo n) (j/P.cellsOf (RowT.ty s))=RowT.elt s (lo+j/P.cellsOf (RowT.ty s)):=by
  have q1:=RowL.elt_eq (P:=P) (RowT.sub s lo n) (j/P.cellsOf (RowT.ty s)) (by rw [hlen];exact hi)
  have q2:=RowL.elt_eq (P:=P) s (lo+j/P.cellsOf (RowT.ty s)) (by omega)
  rw [hcel,List.getElem?_take,if_pos hi,List.getElem?_drop,q2] at q1
  exact (Option.some.inj q1).symm
 rw [show lo*P.cellsOf (RowT.ty s)+j=(lo+j/P.cellsOf (RowT.ty s))*P.cellsOf (RowT.ty s)+j % P.cellsOf (RowT.ty s) by rw [Nat.add_mul];omega,h2,← h3]
 exact h1.symm
theorem C6p {id kk:Nat} {s:R} (hbs:S3 P g w w0.heap.size id (.rows kk s)):(0<RowT.len s→∃ ad cap,g id = .slice (some ad) (RowT.len s) cap∧∀ j u,(flat s)[j]? = some u→w.cell? (ad.add j)=some u)∧(RowT.len s=0→∃ A cap,g id = .slice A 0 cap):=by
 refine ⟨fun h0=>?_,fun h00=>?_⟩
 · obtain ⟨ad,n,cap,hg,hn,hcell⟩:=A4j hbs h0
   exact ⟨ad,cap,by rw [hg,hn],hcell⟩
 · cases kk with
   | zero=>obtain ⟨A,cap,hg,_⟩:=hbs;exact ⟨A,cap,by rw [hg,h00]⟩
   | succ kk=>
      rcases hbs.2 with ⟨hg,_⟩ | ⟨b,cap,cur,hg,_⟩
      · exact ⟨none,0,hg⟩
      · exact ⟨_,cap,by rw [hg,h00]⟩
theorem wp_append {c:Call} {x y:Operand} {t:TypeId} (hop:o.op = .call c) (hc:c.callee = .builtin .append) (ha:c.args.toList=[x,y]) (hat:c.argTypes.toList=[t,t]) (h:Inv P w0 L g0 hp0 st g a w) {id:Nat} {e:TypeId} {r s r':R} {inf:TypeInfo} {vy:Value}
 (hx:AI.ev st x = .w (.c (.rw id))) (he2:a.eval y=vy) (hs0:0<RowT.len s→∃ ad cap,vy = .slice (some ad) (RowT.len s) cap∧∀ j u,(flat s)[j]? = some u→w.cell? (ad.add j)=some u) (hs1:RowT.len s=0→∃ A cap,vy = .slice A 0 cap) (hu:P.underlying t=some (.slice e)) (hr:get st.hp id=some (.rows 2 r)) (hinf:P.info? e=some inf) (hte:e=RowT.ty r)
 (happ:RowT.app r s=some r') (hp:({ st with nx:=st.nx+1,hp:=(st.nx,.rows 2 r')::(id,.dead)::st.hp }:St R).put o.dst (.w (.c (.rw st.nx)))=some st') (hl:RowT.len r+RowT.len s<lim inf.bytes):Eff P w0 L g0 hp0 st st' g a w o:=by
 obtain ⟨he,hi,_⟩:=h.ev (x:=x) (by rw [hx];simp)
 rw [hx] at he hi
 simp only [H7,O4,conc] at he
 have hown:w.ownsRow w0.heap.size (RowT.ty r) (P.cellsOf (RowT.ty r)) (g id) (RowT.len r) (flat r):=by simpa [S3] using h.heap.blk _ _ hr
 obtain ⟨hcel,hty,hts⟩:=RowL.app_eq (P:=P) r s r' happ
 obtain ⟨i,z,hinf',hz,hzs,hsp,hbp,_⟩:=RowL.info (P:=P) r
 rw [← hte,hinf] at hinf'
 injection hinf' with e1;subst e1
 have hce:P.cellsOf (RowT.ty r)=inf.size:=by rw [← hte];simp [Program.cellsOf,hinf]
 have hlen:RowT.len r'=RowT.len r+RowT.len s:=by rw [RowL.len_eq (P:=P),hcel,List.length_append,← RowL.len_eq (P:=P),← RowL.len_eq (P:=P)]
 have hfl:flat r'=flat r++flat s:=by simp [flat,hcel]
 have hfs:(flat s).length=RowT.len s*inf.size:=by rw [Z3 (P:=P),hts,hce]
 have hbytes:=C9j hl hbp
 have hmaxn:=A7s (n:=RowT.len r+RowT.len s) hbp
 have hex:execOp a.eval o=(do pure (Next.value (← Builtin.append_ #[t,t] o.type #[g id,vy]))):=by
  unfold execOp
  rw [hop]
  have h1:c.args=#[x,y]:=by rw [← Array.toArray_toList (xs:=c.args),ha]
  have h2:c.argTypes=#[t,t]:=by rw [← Array.toArray_toList (xs:=c.argTypes),hat]
  simp only [resolve,hc,h1,h2,List.map_toArray,List.map_cons,List.map_nil,he,he2]
  rfl
 -- what the second one reads
 have run:∃ v' w',(Builtin.append_ #[t,t] o.type #[g id,vy]).run P w = .ok v' w'∧w'.ownsRow w0.heap.size e inf.size v' (RowT.len r+RowT.len s) (flat r++flat s)∧w.grownBy w' (g id).ownBlock∧(v'.ownBlock=(g id).ownBlock∨v'.ownBlock=some w.heap.size):=by
  rw [hce,← hte] at hown
  by_cases h0:0<RowT.len s
  · obtain ⟨ad,cap,hg,hcell⟩:=hs0 h0
    obtain ⟨v',w',h1,h2,h3,_,h5⟩:=run_append_own_at (P:=P) w w0.heap.size t o.type e inf z inf.size inf.bytes hu hinf hz rfl rfl hzs hsp (g id) _ _ hown ad (RowT.len s) cap (flat s) hfs hcell
     (fun u hu=>by obtain ⟨q,_,rfl⟩:=List.mem_map.1 hu;exact q.one) (by simp only [maxLen];omega) hbytes h.heap.frame.size
    exact ⟨v',w',by rw [hg];exact h1,h2,h3,h5⟩
  · have h00:RowT.len s=0:=by omega
    have hf0:flat s=[]:=List.eq_nil_of_length_eq_zero (by rw [hfs,h00];simp)
    obtain ⟨A,cap,hg⟩:=hs1 h00
    rw [h00,hf0,Nat.add_zero,List.append_nil]
    cases A with
    | none=>
      refine ⟨g id,w,?_,hown,⟨rfl,rfl,rfl,Nat.le_refl _,fun _ _ _=>rfl⟩,.inl rfl⟩
      rw [hg]
      rcases hown.2 with ⟨hv,_⟩ | ⟨b,cap',cur,hv,_,_,hnc,_⟩
      · rw [hv];simp [Builtin.append_,run_underlying hu,sizeOf,typeInfo,hinf,Builtin.lenOf,Builtin.firstCells]
      · rw [hv];simp [Builtin.append_,run_underlying hu,sizeOf,typeInfo,hinf,Builtin.lenOf,Builtin.firstCells,hnc,storeCells]
    | some ad=>
      obtain ⟨v',w',h1,h2,h3,_,h5⟩:=run_append_own_at (P:=P) w w0.heap.size t o.type e inf z inf.size inf.bytes hu hinf hz rfl rfl hzs hsp (g id) _ _ hown ad 0 cap [] (by simp) (by simp) (by simp) (by simp only [maxLen];omega) (by rw [Nat.add_zero];exact Nat.le_trans (Nat.mul_le_mul_right _ (Nat.le_add_right _ _)) hbytes) h.heap.frame.size
      simp only [Nat.add_zero,List.append_nil] at h2
      exact ⟨v',w',by rw [hg];exact h1,h2,h3,h5⟩
 obtain ⟨v',w',hrun,hown',hgr,hat'⟩:=run
 have hown2:w'.ownsRow w0.heap.size (RowT.ty r') (P.cellsOf (RowT.ty r')) v' (RowT.len r') (flat r'):=by rw [hty,hce,hlen,hfl,← hte];exact hown'
 have hd:=h.heap.drop hr
 have hob:∀ n,(g id).ownBlock=some n↔T9 (g id)=some n:=by
  intro n
  rcases hown.2 with ⟨hv,_⟩ | ⟨b,cap',cur,hv,_⟩<;>rw [hv]<;>simp [Value.ownBlock,T9]
 have hone:v'.oneCell'=true:=by rcases hown2.2 with ⟨rfl,_⟩ | ⟨_,_,_,rfl,_⟩<;>rfl
 have hh:=hd.add (b:=Blk.rows 2 r') (v:=v') (row:=(g id).ownBlock) hgr (fun n hn=>⟨h.heap.mutL id _ n hr trivial ((hob n).1 hn),fun i' b' hb' hh'=>by
  rw [O5] at hb'
  split at hb'
  · simp only [Option.some.injEq] at hb';subst hb';exact hh'
  · rename_i hne'
    exact h.heap.sep id _ i' b' n hr hb' hne' trivial ((hob n).1 hn) hh'⟩) (by simp [idsB]) (by simpa [S3,U0] using hown2) (fun n hn=>?_) hone
 · have h1:=h.onto hh (Nat.le_succ _) (fun i hi=>V3 g v' (by omega)) ((Same.cons (nx:=st.nx) (.inr (.inr (.inl ⟨rfl,r,hr⟩)))).trans (Same.cons (nx:=st.nx) (.inl (Nat.le_refl _))) (Nat.le_refl _))
   refine B1d (v:=v') (w':=w') (by rw [hop];simp [A0j,hc]) (.inl ?_) (h1.put hp (fun _=>by simp [H7,O4,conc,U0]) (by simp [idsV,idsW,idsC]) trivial) (fun i hi=>V3 g v' (by omega)) (Tch.grown hgr fun n hn=>⟨id,by simp [A3a,hop,hc,ha,hx,idOf],(hob n).1 hn⟩)
   rw [hex]
   simp [hrun]
 · have hn':T9 v'=some n:=by simpa [HasB,U0] using hn
   have hv':v'.ownBlock=some n:=by rcases hown2.2 with ⟨hv,_⟩ | ⟨b,cap',cur,hv,_⟩<;>rw [hv] at hn' ⊢<;>simpa [Value.ownBlock,T9] using hn'
   rcases hat' with q | q
   · exact .inr (q.symm.trans hv')
   · rw [hv'] at q;injection q with q;exact .inl (Nat.le_of_eq q.symm)
end
end Go.Proofs.YtmfgajbkcnlkcaaGreat.AI
namespace Go.Proofs.YtmfgajbkcnlkcaaGreat.AI
set_option linter.all false
open Go Go.RowKit
section
variable {R:Type} [RowT R] {P:Program} [RowL P R] {w0:World} {L:Nat→Prop} {g0:Nat→Value} {hp0:List (Blk R)} {st st':St R} {g:Nat→Value} {a:Act} {w w':World} {o:Oper}
variable {K:Act→World→Prop} {Q:Exit→Act→World→Prop} {ts:List Tst}
theorem V1 {s:Option (St R)} (h:(match s with
 | some s=>some ([],s)
 | none=>none)=some (ts,st')):s=some st'∧ts=[]:=by
 cases s with
 | none=>simp at h
 | some s=>simp only [Option.some.injEq,Prod.mk.injEq] at h;exact ⟨by rw [h.2],h.1.symm⟩
theorem C6g {c:Call} (hop:o.op = .call c) (h:Inv P w0 L g0 hp0 st g a w) (hp:pop P o st=some (ts,st')) (ht:∀ t∈ts,t.p):Eff P w0 L g0 hp0 st st' g a w o:=by
 unfold pop at hp
 rw [hop] at hp
 dsimp only at hp
 split at hp<;>rename_i hc
 · -- len
   split at hp
   · rename_i x t ha hat
     split at hp
     · rename_i id e hv hu
       split at hp
       · rename_i kk r hb
         obtain ⟨hput,_⟩:=V1 hp
         obtain ⟨he,hi,_⟩:=h.ev (x:=x) (by rw [hv];simp)
         rw [hv] at he hi
         have hg:∃ A cap,g id = .slice A (RowT.len r) cap:=by
          have hbs:=h.heap.blk _ _ hb
          cases kk with
          | zero=>obtain ⟨A,cap,hg,_⟩:=hbs;exact ⟨A,cap,hg⟩
          | succ kk=>
             rcases hbs.2 with ⟨hg,h0⟩ | ⟨b,cap,cur,hg,_⟩
             · exact ⟨none,0,by rw [hg,h0]⟩
             · exact ⟨_,cap,hg⟩
         obtain ⟨A,cap,hg⟩:=hg
         have hpu:P.underlying t=some (.slice (P.elem t)):=by rw [hu];simp [Program.elem,hu]
         refine A0w (v:=.int .i64 (RowT.len r:Nat)) (h.put hput (fun _=>rfl) (by simp [idsV,idsW,idsC]) trivial) (S5 h o) (fun w1 _=>?_)
         have h1:c.args=#[x]:=by rw [← Array.toArray_toList (xs:=c.args),ha]
         have h2:c.argTypes=#[t]:=by rw [← Array.toArray_toList (xs:=c.argTypes),hat]
         unfold execOp
         rw [hop]
         simp only [resolve,hc,h1,h2,List.map_toArray,List.map_cons,List.map_nil,he,H7,O4,conc,hg]
         have:=run_len_slice (P:=P) w1 t o.type A (RowT.len r) cap hpu
         simp [invoke,builtin,this,goInt]
       · simp at hp
     · simp at hp
   · simp at hp
 · -- min
   split at hp
   · rename_i x y ha
     split at hp
     · rename_i k n k' m hv hy
       split at hp
       · rename_i hk
         subst hk
         obtain ⟨hput,_⟩:=V1 hp
         obtain ⟨he,hi,_⟩:=h.ev (x:=x) (by rw [hv];simp)
         obtain ⟨he2,_,_⟩:=h.ev (x:=y) (by rw [hy];simp)
         rw [hv] at he
         rw [hy] at he2
         refine A0w (v:=.int k (if m<n then m else n)) (h.put hput (fun _=>rfl) (by simp [idsV,idsW,idsC]) trivial) (S5 h o) (fun w1 _=>?_)
         have h1:c.args=#[x,y]:=by rw [← Array.toArray_toList (xs:=c.args),ha]
         unfold execOp
         rw [hop]
         simp only [resolve,hc,h1,List.map_toArray,List.map_cons,List.map_nil,he,he2,H7,O4,conc,Sc.v]
         simp [invoke,builtin,Builtin.min_,Builtin.min2]
       · simp at hp
     · simp at hp
   · simp at hp
 · -- append
   split at hp
   · rename_i x y t u ha hat
     split at hp
     · rename_i id jd e hv hy hu
       cases hcc:(Nat.beq t u&&!Nat.beq id jd) with
       | false=>rw [hcc] at hp;simp at hp
       | true=>
         rw [hcc] at hp
         simp only [cond_true] at hp
         simp only [Bool.and_eq_true,Bool.not_eq_true'] at hcc
         obtain ⟨h1,h2⟩:=hcc
         obtain rfl:=O3 h1
         have hne:id≠jd:=fun e=>by rw [e] at h2;simp at h2
         split at hp
         · rename_i r kk s inf hr hs hinf
           cases hbe:Nat.beq e (RowT.ty r) with
           | false=>rw [hbe] at hp;simp at hp
           | true=>
             rw [hbe] at hp
             simp only [cond_true] at hp
             split at hp
             · rename_i r' happ
               split at hp
               · rename_i s1 hs1
                 simp only [Option.some.injEq,Prod.mk.injEq] at hp
                 obtain ⟨rfl,rfl⟩:=hp
                 obtain ⟨he2,_,_⟩:=h.ev (x:=y) (by rw [hy];simp)
                 rw [hy] at he2
                 obtain ⟨q1,q2⟩:=C6p (h.heap.blk _ _ hs)
                 exact wp_append hop hc ha hat h hv he2 q1 q2 hu hr hinf (O3 hbe) happ hs1 (ht ⟨RowT.len r+RowT.len s<lim inf.bytes,inferInstance⟩ (by simp))
               · simp at hp
             · simp at hp
         · simp at hp
     · rename_i id jd sz lo n e hv hy hu
       cases hcc:(Nat.beq t u&&!Nat.beq id jd) with
       | false=>rw [hcc] at hp;simp at hp
       | true=>
         rw [hcc] at hp
         simp only [cond_true] at hp
         simp only [Bool.and_eq_true,Bool.not_eq_true'] at hcc
         obtain ⟨h1,h2⟩:=hcc
         obtain rfl:=O3 h1
         split at hp
         · rename_i r kk s inf hr hs hinf
           cases hbe:Nat.beq e (RowT.ty r) with
           | false=>rw [hbe] at hp;simp at hp
           | true=>
             rw [hbe] at hp
             simp only [cond_true] at hp
             split at hp
             · rename_i r' happ
               split at hp
               · rename_i s1 hs1
                 simp only [Option.some.injEq,Prod.mk.injEq] at hp
                 obtain ⟨rfl,rfl⟩:=hp
                 obtain ⟨he2,_,hep⟩:=h.ev (x:=y) (by rw [hy];simp)
                 rw [hy] at he2 hep
                 obtain ⟨hle,rfl⟩:=hep kk s hs
                 obtain ⟨q0,q1,q2⟩:=C6n (h.heap.blk _ _ hs) hle
                 refine wp_append hop hc ha hat h hv he2 (fun q=>by rw [q0] at q ⊢;exact q1 q) (fun q=>q2 (q0▸q)) hu hr hinf (O3 hbe) happ hs1 ?_
                 rw [q0];exact ht ⟨RowT.len r+n<lim inf.bytes,inferInstance⟩ (by simp)
               · simp at hp
             · simp at hp
         · simp at hp
     · simp at hp
   · simp at hp
 · simp at hp
theorem C8e {x:Operand} (hop:o.op = .move x∨o.op = .assign x) (h:Inv P w0 L g0 hp0 st g a w)
 (hp:mvOf P o st x=some (ts,st')):Eff P w0 L g0 hp0 st st' g a w o:=by
 unfold mvOf at hp
 have hrun:∀ w1,(execOp a.eval o).run P w1 = .ok (.value (a.eval x)) w1:=fun w1=>by unfold execOp;rcases hop with hop | hop<;>rw [hop]<;>rfl
 have hev:=h.ev (x:=x)
 cases hv:AI.ev st x with
 | nl=>
   rw [hv] at hp hev
   obtain ⟨he,_,_⟩:=hev (by simp)
   dsimp only at hp
   cases x with
   | const c=>
   dsimp only at hp
   split at hp
   · rename_i e hu
     split at hp
     · rename_i r hr
       obtain ⟨hput,_⟩:=V1 hp
       obtain ⟨g',hg',hg2⟩:=h.newRows hput (A7u w) (by simp) (B8l hr) (by simp [T9])
       refine B1d (w':=w) ?_ (.inl (hrun w)) (by rw [he];exact hg') hg2 (Tch.refl _ _ _)
       have:∃ A n k,c=Value.slice A n k:=by
        cases c<;>simp only [AI.ev,reduceCtorEq] at hv
        exact ⟨_,_,_,rfl⟩
       obtain ⟨A,n,k,rfl⟩:=this
       rcases hop with hop | hop<;>rw [hop]<;>rfl
     · simp at hp
   · simp at hp
   | _=>simp at hp
 | no=>rw [hv] at hp;simp at hp
 | un=>rw [hv] at hp;simp at hp
 | w y=>rw [hv] at hp hev;obtain ⟨he,hi,hep⟩:=hev (by simp);exact A0w (h.put (V1 hp).1 (fun _=>he) hi hep) (S5 h o) (fun w1 _=>hrun w1)
 | tu y=>rw [hv] at hp hev;obtain ⟨he,hi,hep⟩:=hev (by simp);exact A0w (h.put (V1 hp).1 (fun _=>he) hi hep) (S5 h o) (fun w1 _=>hrun w1)
 | pt i1 i2=>rw [hv] at hp hev;obtain ⟨he,hi,hep⟩:=hev (by simp);exact A0w (h.put (V1 hp).1 (fun _=>he) hi hep) (S5 h o) (fun w1 _=>hrun w1)
 | ep i1 i2 i3 i4=>rw [hv] at hp hev;obtain ⟨he,hi,hep⟩:=hev (by simp);exact A0w (h.put (V1 hp).1 (fun _=>he) hi hep) (S5 h o) (fun w1 _=>hrun w1)
 | sub i1 i2 i3 i4=>rw [hv] at hp hev;obtain ⟨he,hi,hep⟩:=hev (by simp);exact A0w (h.put (V1 hp).1 (fun _=>he) hi hep) (S5 h o) (fun w1 _=>hrun w1)
theorem C8t (h:Inv P w0 L g0 hp0 st g a w) (hp:pop P o st=some (ts,st')) (ht:∀ t∈ts,t.p):Eff P w0 L g0 hp0 st st' g a w o:=by
 have hp0:=hp
 unfold pop at hp
 dsimp only at hp
 split at hp<;>rename_i hop
 · exact C8e (.inl hop) h hp
 · exact C8e (.inr hop) h hp
 · -- pick
   rename_i c x y
   have hex:execOp a.eval o=(do pure (.value (if←asBool (a.eval c) then a.eval x else a.eval y))):=by unfold execOp;rw [hop]
   split at hp
   · rename_i hc
     obtain ⟨he,_,_⟩:=h.ev (x:=c) (by rw [hc];simp)
     rw [hc] at he
     split at hp
     · rename_i q hq
       obtain ⟨he2,hi2,_⟩:=h.ev (x:=x) (by rw [hq];simp)
       rw [hq] at he2 hi2
       refine A0w (h.put (V1 hp).1 (fun _=>rfl) hi2 trivial) (S5 h o) (fun w1 _=>?_)
       rw [hex,he,he2]
       simp [H7,O4,conc,asBool]
     · simp at hp
   · rename_i hc
     obtain ⟨he,_,_⟩:=h.ev (x:=c) (by rw [hc];simp)
     rw [hc] at he
     split at hp
     · rename_i q hq
       obtain ⟨he2,hi2,_⟩:=h.ev (x:=y) (by rw [hq];simp)
       rw [hq] at he2 hi2
       refine A0w (h.put (V1 hp).1 (fun _=>rfl) hi2 trivial) (S5 h o) (fun w1 _=>?_)
       rw [hex,he,he2]
       simp [H7,O4,conc,asBool]
     · simp at hp
   · simp at hp
 · -- alloc
   split at hp
   · rename_i s1 cs hz;exact C3f hop h hz (V1 hp).1
   · simp at hp
 · -- box
   split at hp
   · rename_i y hy;exact C8f hop h hy (V1 hp).1
   · simp at hp
 · -- build
   rename_i t ps
   split at hp
   · rename_i s1 cs hz
     split at hp
     · rename_i cs' hps
       cases hb:B4v P t cs.length with
       | false=>rw [hb] at hp;simp at hp
       | true=>rw [hb] at hp;simp only [cond_true] at hp;exact B6a hop h hz hps hb (V1 hp).1
     · simp at hp
   · simp at hp
 · -- buildSlice
   rename_i t n ps
   split at hp
   · rename_i e hu
     split at hp
     · rename_i r0 hr0
       split at hp
       · rename_i r hr
         cases hb:(Nat.beq n ps.size&&Nat.ble (n*P.cellsOf e) 16777216) with
         | false=>rw [hb] at hp;simp at hp
         | true=>
           rw [hb] at hp
           simp only [cond_true] at hp
           simp only [Bool.and_eq_true] at hb
           exact A8b hop h hu hr0 hr (O3 hb.1) (Nat.le_of_ble_eq_true hb.2) (V1 hp).1
       · simp at hp
     · simp at hp
   · simp at hp
 · exact C6f hop h hp0
 · exact C3d hop h hp0
 · -- nilCheck
   rename_i x
   split at hp
   · rename_i id off hv
     split at hp
     · rename_i t cs hb
       obtain ⟨he,hi,hep⟩:=h.ev (x:=x) (by rw [hv];simp)
       rw [hv] at he hi hep
       obtain ⟨b,hg,_,_⟩:=h.heap.blk _ _ hb
       refine A0w (v:=.pointer (some ⟨b,off,none⟩)) (h.put (V1 hp).1 (fun _=>by simp only [H7,hg]) hi hep) (S5 h o) (fun w1 _=>?_)
       unfold execOp
       rw [hop]
       simp only [he,H7,hg]
       rfl
     · simp at hp
   · simp at hp
 · -- binOp
   rename_i op t x y u
   split at hp
   · rename_i ts1 c hc
     split at hp
     · rename_i s1 hs1
       simp only [Option.some.injEq,Prod.mk.injEq] at hp
       obtain ⟨rfl,rfl⟩:=hp
       obtain ⟨h1,h2,h3⟩:=B5w (g:=g) (P:=P) (w:=w) t hc ht
       have hx:AI.ev st x≠.no:=fun e=>by rw [e] at hc;simp [binV] at hc
       have hy:AI.ev st y≠.no:=fun e=>by rw [e] at hc;unfold binV at hc;split at hc<;>simp_all
       obtain ⟨he,_,_⟩:=h.ev hx
       obtain ⟨he2,_,_⟩:=h.ev hy
       refine A0w (v:=conc g c) (h.put hs1 (fun _=>rfl) (by simp [idsV,idsW,h3]) trivial) (S5 h o) (fun w1 _=>?_)
       obtain ⟨h1,h2,_⟩:=B5w (g:=g) (P:=P) (w:=w1) t hc ht
       unfold execOp
       rw [hop]
       simp only [he,he2]
       simp [h1,h2]
     · simp at hp
   · simp at hp
 · -- unOp
   rename_i op t x
   split at hp
   · rename_i c hc
     obtain ⟨h2,h3⟩:=B7b (g:=g) (P:=P) (w:=w) hc
     have hx:AI.ev st x≠.no:=fun e=>by rw [e] at hc;simp [unV] at hc
     obtain ⟨he,_,_⟩:=h.ev hx
     refine A0w (v:=conc g c) (h.put (V1 hp).1 (fun _=>rfl) (by simp [idsV,idsW,h3]) trivial) (S5 h o) (fun w1 _=>?_)
     obtain ⟨h2,_⟩:=B7b (g:=g) (P:=P) (w:=w1) hc
     unfold execOp
     rw [hop]
     simp only [he]
     simp [h2]
   · simp at hp
 · -- convert
   rename_i s d x
   split at hp
   · rename_i k n k1 k2 hv hs hd
     obtain ⟨he,_,_⟩:=h.ev (x:=x) (by rw [hv];simp)
     rw [hv] at he
     rw [B6y] at hp
     refine A0w (v:=.int k2 (k2.wrap n)) (h.put (V1 hp).1 (fun _=>rfl) (by simp [idsV,idsW,idsC]) trivial) (S5 h o) (fun w1 _=>?_)
     unfold execOp
     rw [hop]
     simp only [he,H7,O4,conc,Sc.v]
     simp [convert,run_underlying hs,run_underlying hd,Conv.intToInt]
   · simp at hp
 · exact A9t hop h hp0 ht
 · exact A9v hop h hp0
 · exact A9u hop h hp0 ht
 · exact C3e hop h hp0 ht
 · -- extract
   rename_i x k
   split at hp
   · rename_i ws hv
     split at hp
     · rename_i y hy
       rw [A0z] at hy
       obtain ⟨he,hi,_⟩:=h.ev (x:=x) (by rw [hv];simp)
       rw [hv] at he hi
       refine A0w (v:=O4 g y) (h.put (V1 hp).1 (fun _=>rfl) (fun id hid=>hi id (List.mem_flatMap.2 ⟨y,List.mem_of_getElem? hy,by simpa [idsV] using hid⟩)) trivial) (S5 h o) (fun w1 _=>?_)
       unfold execOp
       rw [hop]
       simp only [he,H7]
       simp [Instr.extract,hy]
     · simp at hp
   · simp at hp
 · exact C6g hop h hp0 ht
 · simp at hp
end
end Go.Proofs.YtmfgajbkcnlkcaaGreat.AI
