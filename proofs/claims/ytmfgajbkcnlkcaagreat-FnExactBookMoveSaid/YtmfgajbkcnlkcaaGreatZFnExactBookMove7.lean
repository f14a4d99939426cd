/- BookMove of the program and of the reference agree at all books and numbers; no condition but that they are ints. -/
import Derived.Test.YtmfgajbkcnlkcaaGreatZFnExactBookMove6
import Derived.RowKit
import Derived.IntWalk
import Derived.Lib.Mul64
import Derived.Laws.BitsLemmas
import Derived.Deep.Slices
import Derived.Deep.Fields
import Derived.ChangeSame
import Derived.ChangeShapes
import Derived.WideShapes
import Derived.SizedLaws
import Derived.Test.YtmfgajbkcnlkcaaGreatRows
import Derived.WalkKit
import Derived.ProofKit
import Derived.OpenShut
import Derived.ShutString
import Derived.ChangeOld
import Derived.Below
import Derived.Carry
namespace Go.Proofs.YtmfgajbkcnlkcaaGreat.P
end Go.Proofs.YtmfgajbkcnlkcaaGreat.P
namespace Go.Proofs.YtmfgajbkcnlkcaaGreat.EV
end Go.Proofs.YtmfgajbkcnlkcaaGreat.EV
namespace Go.Proofs.YtmfgajbkcnlkcaaGreat.C1
end Go.Proofs.YtmfgajbkcnlkcaaGreat.C1
namespace Go.Proofs.YtmfgajbkcnlkcaaGreat.C2
end Go.Proofs.YtmfgajbkcnlkcaaGreat.C2
namespace Go.Proofs.YtmfgajbkcnlkcaaGreat.B1
end Go.Proofs.YtmfgajbkcnlkcaaGreat.B1
namespace Go.Proofs.YtmfgajbkcnlkcaaGreat.B2
end Go.Proofs.YtmfgajbkcnlkcaaGreat.B2
namespace Go.Proofs.YtmfgajbkcnlkcaaGreat.M1
end Go.Proofs.YtmfgajbkcnlkcaaGreat.M1
namespace Go.Proofs.YtmfgajbkcnlkcaaGreat.I1
end Go.Proofs.YtmfgajbkcnlkcaaGreat.I1
namespace Go.Proofs.YtmfgajbkcnlkcaaGreat.N1
end Go.Proofs.YtmfgajbkcnlkcaaGreat.N1
namespace Go.Proofs.YtmfgajbkcnlkcaaGreat.B3
end Go.Proofs.YtmfgajbkcnlkcaaGreat.B3
namespace Go.Proofs.YtmfgajbkcnlkcaaGreat.B4
end Go.Proofs.YtmfgajbkcnlkcaaGreat.B4
namespace Go.Proofs.YtmfgajbkcnlkcaaGreat.G1
end Go.Proofs.YtmfgajbkcnlkcaaGreat.G1
namespace Go.Proofs.YtmfgajbkcnlkcaaGreat.B5
end Go.Proofs.YtmfgajbkcnlkcaaGreat.B5
namespace Go.Proofs.YtmfgajbkcnlkcaaGreat.E1
end Go.Proofs.YtmfgajbkcnlkcaaGreat.E1
namespace Go.Proofs.YtmfgajbkcnlkcaaGreat.E2
end Go.Proofs.YtmfgajbkcnlkcaaGreat.E2
namespace Go.Proofs.YtmfgajbkcnlkcaaGreat.E3
end Go.Proofs.YtmfgajbkcnlkcaaGreat.E3
namespace Go.Proofs.YtmfgajbkcnlkcaaGreat.L1
end Go.Proofs.YtmfgajbkcnlkcaaGreat.L1
namespace Go.Proofs.YtmfgajbkcnlkcaaGreat.E4
end Go.Proofs.YtmfgajbkcnlkcaaGreat.E4
namespace Go.Proofs.YtmfgajbkcnlkcaaGreat.E5
end Go.Proofs.YtmfgajbkcnlkcaaGreat.E5
namespace Go.Proofs.YtmfgajbkcnlkcaaGreat.E6
end Go.Proofs.YtmfgajbkcnlkcaaGreat.E6
namespace Go.Proofs.YtmfgajbkcnlkcaaGreat.BC
end Go.Proofs.YtmfgajbkcnlkcaaGreat.BC
namespace Go.Proofs.YtmfgajbkcnlkcaaGreat.T1
end Go.Proofs.YtmfgajbkcnlkcaaGreat.T1
namespace Go.Proofs.YtmfgajbkcnlkcaaGreat.T2
end Go.Proofs.YtmfgajbkcnlkcaaGreat.T2
namespace Go.Proofs.YtmfgajbkcnlkcaaGreat.K1
end Go.Proofs.YtmfgajbkcnlkcaaGreat.K1
namespace Go.Proofs.YtmfgajbkcnlkcaaGreat.BK
end Go.Proofs.YtmfgajbkcnlkcaaGreat.BK
namespace Go.Proofs.YtmfgajbkcnlkcaaGreat.BA
end Go.Proofs.YtmfgajbkcnlkcaaGreat.BA
namespace Go.Proofs.YtmfgajbkcnlkcaaGreat.BI
end Go.Proofs.YtmfgajbkcnlkcaaGreat.BI
namespace Go.Proofs.YtmfgajbkcnlkcaaGreat.K1
open Go Go.RowKit Go.Proofs.YtmfgajbkcnlkcaaGreat.P Go.Proofs.YtmfgajbkcnlkcaaGreatW.PrintWords Go.Proofs.YtmfgajbkcnlkcaaGreatW.PrintLast Go.Proofs.YtmfgajbkcnlkcaaGreat.EV Go.Proofs.YtmfgajbkcnlkcaaGreat.C1 Go.Proofs.YtmfgajbkcnlkcaaGreat.C2 Go.Proofs.YtmfgajbkcnlkcaaGreat.B1 Go.Proofs.YtmfgajbkcnlkcaaGreat.B2
theorem C1b (l:Nat→Int→Option Bool) (n:Nat) (G:Nat→Prop)
 (hs:∀ i:Nat,i<n→(G i∧∀ r,Ev (fun k=>l k ((i+1:Nat):Int)) r→Ev (fun k=>l k (i:Int)) r)∨(¬ G i∧Ev (fun k=>l k (i:Int)) false)) :
 ∀ (d i:Nat),n-i=d→i≤n→((∀ j,i≤j→j<n→G j)∧∀ r,Ev (fun k=>l k (n:Int)) r→Ev (fun k=>l k (i:Int)) r)∨(¬ (∀ j,i≤j→j<n→G j)∧Ev (fun k=>l k (i:Int)) false):=by
 intro d
 induction d with
 | zero=>
   intro i hd hi
   obtain rfl:i=n:=by omega
   exact .inl ⟨fun j h1 h2=>by omega,fun r hr=>hr⟩
 | succ d ih=>
   intro i hd hi
   rcases hs i (by omega) with ⟨hg,he⟩ | ⟨hg,he⟩
   · rcases ih (i+1) (by omega) (by omega) with ⟨h1,h2⟩ | ⟨h1,h2⟩
     · refine .inl ⟨fun j h3 h4=>?_,fun r hr=>he r (h2 r hr)⟩
       rcases Nat.eq_or_lt_of_le h3 with h5 | h5
       · exact h5▸hg
       · exact h1 j h5 h4
     · exact .inr ⟨fun h=>h1 fun j h3 h4=>h j (by omega) h4,he _ h2⟩
   · exact .inr ⟨fun h=>hg (h i (Nat.le_refl _) (by omega)),he⟩
theorem C8i {n:Int} (h:n=0):told n true=(0,true):=by
 subst h
 unfold told
 rw [if_pos ⟨rfl,by unfold N1.Amt;omega⟩]
theorem C6i {n:Int} (h:n≠0) (g:(told n true).2=true):(told n true).1≠0:=by
 unfold told at g ⊢
 split at g
 · rename_i h1
   rw [if_pos h1]
   exact h
 · exact absurd g (by decide)
section
variable (A:List S80) (I:List S84) (B:List S106) (L:List S110) (T:List S60) (d:Int)
theorem kA_s {A:List S80} (hA:okA A=true) (m:A.length≤9223372036854775807) (no:Int):Ev (fun k=>C9.f k A no) (U8 A no):=by
 have h:=A6d A no m
 unfold A8y at h
 rwa [if_pos hA] at h
theorem kI_s {I:List S84} (hI:okI I=true) (m:I.length≤9223372036854775807) (no:Int):Ev (fun k=>D6.f k I no) (Z1 I no):=by
 have h:=B0q I no m
 unfold B4a at h
 rwa [if_pos hI] at h
def GB (j:Nat):Prop:=U8 A (B.getD j z106).f0≠0∧Z1 I (B.getD j z106).f1≠0∧¬(U8 A (B.getD j z106).f0=1∧(B.getD j z106).f2<0)∧sumB (B.getD j z106).f1 B=0
theorem D1y (hA:okA A=true) (hI:okI I=true) (hB:OkB B) (mA:A.length≤9223372036854775807) (mI:I.length≤9223372036854775807):∃ r,Ev (fun k=>F6.f k A I B L T d) r∧(r=true↔∀ j,j<B.length→GB A I B j):=by
 have hl:=hB.1
 have eS:∀ a,A9n B a=told (sumB a B) true:=fun a=>by unfold A9n;rw [if_pos ((okB_iff B).2 hB)]
 unfold F6.f
 obtain ⟨r,hr,hiff⟩:=Y5 (fun k i=>F6.l0 k i A I B L T d) B.length (GB A I B) true
  (I2 fun k=>by simp only [F6.l0];rw [if_neg (by omega)])
  (fun i hi=>by
    obtain ⟨x,hx⟩:∃ x,B.getD i z106=x:=⟨_,rfl⟩
    have e:∀ k,F6.l0 (k+1) (i:Int) A I B L T d=(C9.f k A x.f0).bind fun t=>(if t=0 then F6.j1 k (i:Int) true A I B L T d x.f0 x.f1 x.f2 else ((D6.f k I x.f1).bind fun u=>if u=0 then F6.j1 k (i:Int) true A I B L T d x.f0 x.f1 x.f2 else (if t=1 then F6.j1 k (i:Int) (decide (x.f2<0)) A I B L T d x.f0 x.f1 x.f2 else F6.j1 k (i:Int) false A I B L T d x.f0 x.f1 x.f2))):=fun k=>by
     simp only [F6.l0]
     rw [if_pos (by omega),if_pos (by omega)]
     simp only [rdB,hx]
    have et:Ev (fun k=>F6.j1 k (i:Int) true A I B L T d x.f0 x.f1 x.f2) false:=I2 fun k=>by simp only [F6.j1];rw [if_pos trivial]
    have ef:∀ k,F6.j1 (k+1) (i:Int) false A I B L T d x.f0 x.f1 x.f2=(G3.f k B x.f1).bind fun bt=>if bt.2=true then (if bt.1=0 then F6.l0 k ((i+1:Nat):Int) A I B L T d else some false) else some false:=fun k=>by
     simp only [F6.j1]
     rw [if_neg (by decide),J5 hi (by omega)]
    have hf0:sumB x.f1 B=0→∀ r,Ev (fun k=>F6.l0 k ((i+1:Nat):Int) A I B L T d) r→Ev (fun k=>F6.j1 k (i:Int) false A I B L T d x.f0 x.f1 x.f2) r:=fun h r hr=>by
     have q:=B1k B x.f1
     rw [eS,C8i h] at q
     exact Ev.step ef (B8 q (Ev.congr (fun k=>if_pos rfl) (Ev.congr (fun k=>if_pos rfl) hr)))
    have hf1:sumB x.f1 B≠0→Ev (fun k=>F6.j1 k (i:Int) false A I B L T d x.f0 x.f1 x.f2) false:=fun h=>by
     have q:=B1k B x.f1
     rw [eS] at q
     refine Ev.step ef (B8 q ?_)
     by_cases g:(told (sumB x.f1 B) true).2=true
     · exact Ev.congr (fun k=>if_pos g) (F3 fun k=>if_neg (C6i h g))
     · exact F3 fun k=>if_neg g
    unfold GB
    rw [hx]
    by_cases h0:U8 A x.f0=0
    · exact .inr ⟨fun g=>g.1 h0,Ev.step e (B8 (kA_s hA mA x.f0) (Ev.congr (fun k=>if_pos h0) et))⟩
    · by_cases h1:Z1 I x.f1=0
      · exact .inr ⟨fun g=>g.2.1 h1,Ev.step e (B8 (kA_s hA mA x.f0) (Ev.congr (fun k=>if_neg h0) (B8 (kI_s hI mI x.f1) (Ev.congr (fun k=>if_pos h1) et))))⟩
      · have mid:∀ r,(Ev (fun k=>if U8 A x.f0=1 then F6.j1 k (i:Int) (decide (x.f2<0)) A I B L T d x.f0 x.f1 x.f2 else F6.j1 k (i:Int) false A I B L T d x.f0 x.f1 x.f2) r)→Ev (fun k=>F6.l0 k (i:Int) A I B L T d) r:=fun r hr=>Ev.step e (B8 (kA_s hA mA x.f0) (Ev.congr (fun k=>if_neg h0) (B8 (kI_s hI mI x.f1) (Ev.congr (fun k=>if_neg h1) hr))))
        by_cases h2:U8 A x.f0=1∧x.f2<0
        · exact .inr ⟨fun g=>g.2.2.1 h2,mid _ (Ev.congr (fun k=>by rw [if_pos h2.1,decide_eq_true h2.2]) et)⟩
        · have ej:∀ k,(if U8 A x.f0=1 then F6.j1 k (i:Int) (decide (x.f2<0)) A I B L T d x.f0 x.f1 x.f2 else F6.j1 k (i:Int) false A I B L T d x.f0 x.f1 x.f2)=F6.j1 k (i:Int) false A I B L T d x.f0 x.f1 x.f2:=fun k=>by
           by_cases h3:U8 A x.f0=1
           · rw [if_pos h3,decide_eq_false (fun g=>h2 ⟨h3,g⟩)]
           · rw [if_neg h3]
          by_cases h4:sumB x.f1 B=0
          · exact .inl ⟨⟨h0,h1,h2,h4⟩,fun r hr=>mid r (Ev.congr ej (hf0 h4 r hr))⟩
          · exact .inr ⟨fun g=>h4 g.2.2.2,mid _ (Ev.congr ej (hf1 h4))⟩) B.length 0 (by omega) (by omega)
 refine ⟨r,hr,?_⟩
 rw [hiff]
 exact ⟨fun h i hi=>h.1 i (Nat.zero_le _) hi,fun h=>⟨fun i _ hi=>h i hi,rfl⟩⟩
theorem D1z (hB:OkB B) (mA:A.length≤9223372036854775807) (mI:I.length≤9223372036854775807):∃ r,Ev (fun k=>F9.f k A I B L T d) r∧(r=true↔∀ j,j<B.length→GB A I B j):=by
 have hl:=hB.1
 unfold F9.f
 obtain ⟨r,hr,hiff⟩:=Y5 (fun k i=>F9.l0 k B (B.length:Int) i A I B L T d) B.length (GB A I B) true
  (I2 fun k=>by simp only [F9.l0];rw [if_neg (by omega)])
  (fun i hi=>by
    obtain ⟨x,hx⟩:∃ x,B.getD i z106=x:=⟨_,rfl⟩
    have e:∀ k,F9.l0 (k+1) B (B.length:Int) (i:Int) A I B L T d=(D3.f k A x.f0).bind fun t=>(if t=0 then some false else ((E8.f k I x.f1).bind fun u=>if u=0 then some false else (if t=1 then (if x.f2<0 then some false else ((H8.f k B x.f1).bind fun s=>if s=0 then F9.l0 k B (B.length:Int) ((i+1:Nat):Int) A I B L T d else some false)) else ((H8.f k B x.f1).bind fun s=>if s=0 then F9.l0 k B (B.length:Int) ((i+1:Nat):Int) A I B L T d else some false)))):=fun k=>by
     simp only [F9.l0]
     rw [if_pos (by omega),if_pos (by omega),if_pos (by omega),J5 hi (by omega)]
     simp only [rdB,hx]
    have hf0:sumB x.f1 B=0→∀ r,Ev (fun k=>F9.l0 k B (B.length:Int) ((i+1:Nat):Int) A I B L T d) r→Ev (fun k=>(H8.f k B x.f1).bind fun s=>if s=0 then F9.l0 k B (B.length:Int) ((i+1:Nat):Int) A I B L T d else some false) r:=fun h r hr=>B8 (C8o hB x.f1) (Ev.congr (fun k=>if_pos h) hr)
    have hf1:sumB x.f1 B≠0→Ev (fun k=>(H8.f k B x.f1).bind fun s=>if s=0 then F9.l0 k B (B.length:Int) ((i+1:Nat):Int) A I B L T d else some false) false:=fun h=>B8 (C8o hB x.f1) (F3 fun k=>if_neg h)
    unfold GB
    rw [hx]
    by_cases h0:U8 A x.f0=0
    · exact .inr ⟨fun g=>g.1 h0,Ev.step e (B8 (A2n A x.f0 mA) (F3 fun k=>if_pos h0))⟩
    · by_cases h1:Z1 I x.f1=0
      · exact .inr ⟨fun g=>g.2.1 h1,Ev.step e (B8 (A2n A x.f0 mA) (Ev.congr (fun k=>if_neg h0) (B8 (A6e I x.f1 mI) (F3 fun k=>if_pos h1))))⟩
      · have mid:∀ r,(Ev (fun k=>if U8 A x.f0=1 then (if x.f2<0 then some false else ((H8.f k B x.f1).bind fun s=>if s=0 then F9.l0 k B (B.length:Int) ((i+1:Nat):Int) A I B L T d else some false)) else ((H8.f k B x.f1).bind fun s=>if s=0 then F9.l0 k B (B.length:Int) ((i+1:Nat):Int) A I B L T d else some false)) r)→Ev (fun k=>F9.l0 k B (B.length:Int) (i:Int) A I B L T d) r:=fun r hr=>Ev.step e (B8 (A2n A x.f0 mA) (Ev.congr (fun k=>if_neg h0) (B8 (A6e I x.f1 mI) (Ev.congr (fun k=>if_neg h1) hr))))
        by_cases h2:U8 A x.f0=1∧x.f2<0
        · exact .inr ⟨fun g=>g.2.2.1 h2,mid _ (F3 fun k=>by rw [if_pos h2.1,if_pos h2.2])⟩
        · have ej:∀ k,(if U8 A x.f0=1 then (if x.f2<0 then some false else ((H8.f k B x.f1).bind fun s=>if s=0 then F9.l0 k B (B.length:Int) ((i+1:Nat):Int) A I B L T d else some false)) else ((H8.f k B x.f1).bind fun s=>if s=0 then F9.l0 k B (B.length:Int) ((i+1:Nat):Int) A I B L T d else some false))=((H8.f k B x.f1).bind fun s=>if s=0 then F9.l0 k B (B.length:Int) ((i+1:Nat):Int) A I B L T d else some false):=fun k=>by
           by_cases h3:U8 A x.f0=1
           · rw [if_pos h3,if_neg (fun g=>h2 ⟨h3,g⟩)]
           · rw [if_neg h3]
          by_cases h4:sumB x.f1 B=0
          · exact .inl ⟨⟨h0,h1,h2,h4⟩,fun r hr=>mid r (Ev.congr ej (hf0 h4 r hr))⟩
          · exact .inr ⟨fun g=>h4 g.2.2.2,mid _ (Ev.congr ej (hf1 h4))⟩) B.length 0 (by omega) (by omega)
 refine ⟨r,hr,?_⟩
 rw [hiff]
 exact ⟨fun h i hi=>h.1 i (Nat.zero_le _) hi,fun h=>⟨fun i _ hi=>h i hi,rfl⟩⟩
def GL (j:Nat):Prop:=U8 A (L.getD j z110).f0=1∧Z1 I (L.getD j z110).f1=2∧¬((L.getD j z110).f2>d)
def GQ (i j:Nat):Prop:=((A.getD i z80).f1=1∧(I.getD j z84).f1=2)→A9.sum3 (E2.ofL (A.getD i z80).f0 (I.getD j z84).f0 L) 0=ofB (A.getD i z80).f0 (I.getD j z84).f0 B
def GP (i:Nat):Prop:=∀ j,0≤j→j<I.length→GQ A I B L i j
theorem C9h (hA:okA A=true) (hI:okI I=true) (mA:A.length≤1048576) (mI:I.length≤1048576) (mB:B.length≤1048576) (mL:L.length≤1048576):∃ r,Ev (fun k=>D4.f k A I B L T d) r∧(r=true↔(∀ j,j<L.length→GL A I L d j)∧∀ i,i<A.length→GP A I B L i):=by
 have two:∀ i:Nat,i<A.length→((∀ j,0≤j→j<I.length→GQ A I B L i j)∧∀ r,Ev (fun k=>D4.l2 k (i:Int) (I.length:Int) A I B L T d) r→Ev (fun k=>D4.l2 k (i:Int) ((0:Nat):Int) A I B L T d) r)∨(¬(∀ j,0≤j→j<I.length→GQ A I B L i j)∧Ev (fun k=>D4.l2 k (i:Int) ((0:Nat):Int) A I B L T d) false):=fun i hi=>
  C1b (fun k j=>D4.l2 k (i:Int) j A I B L T d) I.length (GQ A I B L i) (fun j hj=>by
   obtain ⟨x,hx⟩:∃ x,A.getD i z80=x:=⟨_,rfl⟩
   obtain ⟨y,hy⟩:∃ y,I.getD j z84=y:=⟨_,rfl⟩
   have e:∀ k,D4.l2 (k+1) (i:Int) (j:Int) A I B L T d=if x.f1=1 then D4.j3 k (i:Int) (j:Int) (y.f1 == 2) A I B L T d else D4.j3 k (i:Int) (j:Int) false A I B L T d:=fun k=>by
    simp only [D4.l2]
    rw [if_pos (by omega),if_pos (by omega),if_pos (by omega)]
    simp only [rdA,rdI,hx,hy]
    split
    · rw [if_pos (by omega)]
    · rfl
   have ef:∀ k,D4.j3 (k+1) (i:Int) (j:Int) false A I B L T d=D4.l2 k (i:Int) ((j+1:Nat):Int) A I B L T d:=fun k=>by
    simp only [D4.j3]
    rw [if_neg (by decide),J5 hj (by omega)]
   have et:∀ k,D4.j3 (k+1) (i:Int) (j:Int) true A I B L T d=(I6.f k L x.f0 y.f0).bind fun bt=>((N7.f k bt.1).bind fun q=>((N8.f k B x.f0 y.f0).bind fun b=>(if q=b then D4.l2 k (i:Int) ((j+1:Nat):Int) A I B L T d else some false))):=fun k=>by
    simp only [D4.j3]
    rw [if_pos trivial,if_pos (by omega),if_pos (by omega),if_pos (by omega),if_pos (by omega),J5 hj (by omega)]
    simp only [rdA,rdI,hx,hy]
   unfold GQ
   rw [hx,hy]
   by_cases h1:x.f1=1∧y.f1=2
   · have mid:∀ r,Ev (fun k=>if A9.sum3 (E2.ofL x.f0 y.f0 L) 0=ofB x.f0 y.f0 B then D4.l2 k (i:Int) ((j+1:Nat):Int) A I B L T d else some false) r→Ev (fun k=>D4.l2 k (i:Int) (j:Int) A I B L T d) r:=fun r hr=>
      Ev.step e (Ev.congr (fun k=>by rw [if_pos h1.1,show (y.f1 == 2)=true from beq_iff_eq.2 h1.2]) (Ev.step et (B8 (E2.split_s L x.f0 y.f0 (by omega)) (B8 (E2.qty_s (E2.ofL x.f0 y.f0 L) (by have:=E2.of_len x.f0 y.f0 L;omega)) (B8 (of_s B x.f0 y.f0 (by omega)) hr)))))
     by_cases h2:A9.sum3 (E2.ofL x.f0 y.f0 L) 0=ofB x.f0 y.f0 B
     · exact .inl ⟨fun _=>h2,fun r hr=>mid r (Ev.congr (fun k=>if_pos h2) hr)⟩
     · exact .inr ⟨fun g=>h2 (g h1),mid _ (F3 fun k=>if_neg h2)⟩
   · refine .inl ⟨fun g=>absurd g h1,fun r hr=>Ev.step e (Ev.congr (f:=fun k=>D4.j3 k (i:Int) (j:Int) false A I B L T d) (fun k=>?_) (Ev.step ef hr))⟩
     by_cases h3:x.f1=1
     · rw [if_pos h3,show (y.f1 == 2)=false from beq_eq_false_iff_ne.2 (fun g=>h1 ⟨h3,g⟩)]
     · rw [if_neg h3]) I.length 0 (by omega) (by omega)
 obtain ⟨r1,hr1,hiff1⟩:=Y5 (fun k i=>D4.l1 k i A I B L T d) A.length (GP A I B L) true
  (I2 fun k=>by simp only [D4.l1];rw [if_neg (by omega)])
  (fun i hi=>by
    have e:∀ k,D4.l1 (k+1) (i:Int) A I B L T d=D4.l2 k (i:Int) ((0:Nat):Int) A I B L T d:=fun k=>by
     simp only [D4.l1]
     rw [if_pos (by omega)]
     rfl
    rcases two i hi with ⟨h1,h2⟩ | ⟨h1,h2⟩
    · exact .inl ⟨h1,fun r hr=>Ev.step e (h2 r (Ev.step (fun k=>by simp only [D4.l2];rw [if_neg (by omega),J5 hi (by omega)]) hr))⟩
    · exact .inr ⟨h1,Ev.step e h2⟩) A.length 0 (by omega) (by omega)
 unfold D4.f
 obtain ⟨r,hr,hiff⟩:=Y5 (fun k i=>D4.l0 k i A I B L T d) L.length (GL A I L d) r1
  (Ev.step (fun k=>by simp only [D4.l0];rw [if_neg (by omega)];rfl) hr1)
  (fun i hi=>by
    obtain ⟨x,hx⟩:∃ x,L.getD i z110=x:=⟨_,rfl⟩
    have e:∀ k,D4.l0 (k+1) (i:Int) A I B L T d=(C9.f k A x.f0).bind fun t=>(if t=1 then ((D6.f k I x.f1).bind fun u=>if u=2 then (if x.f2>d then some false else D4.l0 k ((i+1:Nat):Int) A I B L T d) else some false) else some false):=fun k=>by
     simp only [D4.l0]
     rw [if_pos (by omega),if_pos (by omega),J5 hi (by omega)]
     simp only [E1.rdL,hx]
    unfold GL
    rw [hx]
    by_cases h0:U8 A x.f0=1
    · by_cases h1:Z1 I x.f1=2
      · have mid:∀ r,Ev (fun k=>if x.f2>d then some false else D4.l0 k ((i+1:Nat):Int) A I B L T d) r→Ev (fun k=>D4.l0 k (i:Int) A I B L T d) r:=fun r hr=>Ev.step e (B8 (kA_s hA (by omega) x.f0) (Ev.congr (fun k=>if_pos h0) (B8 (kI_s hI (by omega) x.f1) (Ev.congr (fun k=>if_pos h1) hr))))
        by_cases h2:x.f2>d
        · exact .inr ⟨fun g=>g.2.2 h2,mid _ (F3 fun k=>if_pos h2)⟩
        · exact .inl ⟨⟨h0,h1,h2⟩,fun r hr=>mid r (Ev.congr (fun k=>if_neg h2) hr)⟩
      · exact .inr ⟨fun g=>h1 g.2.1,Ev.step e (B8 (kA_s hA (by omega) x.f0) (Ev.congr (fun k=>if_pos h0) (B8 (kI_s hI (by omega) x.f1) (F3 fun k=>if_neg h1))))⟩
    · exact .inr ⟨fun g=>h0 g.1,Ev.step e (B8 (kA_s hA (by omega) x.f0) (F3 fun k=>if_neg h0))⟩) L.length 0 (by omega) (by omega)
 refine ⟨r,hr,?_⟩
 rw [hiff,hiff1]
 exact ⟨fun h=>⟨fun i hi=>h.1 i (Nat.zero_le _) hi,fun i hi=>h.2.1 i (Nat.zero_le _) hi⟩,fun h=>⟨fun i _ hi=>h.1 i hi,fun i _ hi=>h.2 i hi,rfl⟩⟩
theorem C9i (hB:OkB B) (mA:A.length≤1048576) (mI:I.length≤1048576) (mL:L.length≤1048576):∃ r,Ev (fun k=>C6.f k A I B L T d) r∧(r=true↔(∀ j,j<L.length→GL A I L d j)∧∀ i,i<A.length→GP A I B L i):=by
 have two:∀ i:Nat,i<A.length→((∀ j,0≤j→j<I.length→GQ A I B L i j)∧∀ r,Ev (fun k=>C6.l2 k A (A.length:Int) (i:Int) I (I.length:Int) (I.length:Int) A I B L T d (A.getD i z80).f0 (A.getD i z80).f1) r→Ev (fun k=>C6.l2 k A (A.length:Int) (i:Int) I (I.length:Int) ((0:Nat):Int) A I B L T d (A.getD i z80).f0 (A.getD i z80).f1) r)∨(¬(∀ j,0≤j→j<I.length→GQ A I B L i j)∧Ev (fun k=>C6.l2 k A (A.length:Int) (i:Int) I (I.length:Int) ((0:Nat):Int) A I B L T d (A.getD i z80).f0 (A.getD i z80).f1) false):=fun i hi=>
  C1b (fun k j=>C6.l2 k A (A.length:Int) (i:Int) I (I.length:Int) j A I B L T d (A.getD i z80).f0 (A.getD i z80).f1) I.length (GQ A I B L i) (fun j hj=>by
   obtain ⟨x,hx⟩:∃ x,A.getD i z80=x:=⟨_,rfl⟩
   obtain ⟨y,hy⟩:∃ y,I.getD j z84=y:=⟨_,rfl⟩
   rw [hx]
   have e:∀ k,C6.l2 (k+1) A (A.length:Int) (i:Int) I (I.length:Int) (j:Int) A I B L T d x.f0 x.f1=if x.f1=1 then C6.j3 k A (A.length:Int) (i:Int) I (I.length:Int) (j:Int) (y.f1 != 2) A I B L T d x.f0 x.f1 y.f0 y.f1 else C6.j3 k A (A.length:Int) (i:Int) I (I.length:Int) (j:Int) true A I B L T d x.f0 x.f1 y.f0 y.f1:=fun k=>by
    simp only [C6.l2]
    rw [if_pos (by omega),if_pos (by omega),if_pos (by omega)]
    simp only [rdI,hy]
   have ef:∀ k,C6.j3 (k+1) A (A.length:Int) (i:Int) I (I.length:Int) (j:Int) true A I B L T d x.f0 x.f1 y.f0 y.f1=C6.l2 k A (A.length:Int) (i:Int) I (I.length:Int) ((j+1:Nat):Int) A I B L T d x.f0 x.f1:=fun k=>by
    simp only [C6.j3]
    rw [if_pos trivial,J5 hj (by omega)]
   have et:∀ k,C6.j3 (k+1) A (A.length:Int) (i:Int) I (I.length:Int) (j:Int) false A I B L T d x.f0 x.f1 y.f0 y.f1=(H3.f k (E2.ofL x.f0 y.f0 L)).bind fun bt=>((R7.f k B x.f0 y.f0).bind fun b=>(if bt.1=b then C6.l2 k A (A.length:Int) (i:Int) I (I.length:Int) ((j+1:Nat):Int) A I B L T d x.f0 x.f1 else some false)):=fun k=>by
    simp only [C6.j3]
    rw [if_neg (by decide),J5 hj (by omega),show F4.f L x.f0 y.f0=some (E2.ofL x.f0 y.f0 L) from if_pos (by omega),Option.bind_some]
   unfold GQ
   rw [hx,hy]
   by_cases h1:x.f1=1∧y.f1=2
   · have mid:∀ r,Ev (fun k=>if A9.sum3 (E2.ofL x.f0 y.f0 L) 0=ofB x.f0 y.f0 B then C6.l2 k A (A.length:Int) (i:Int) I (I.length:Int) ((j+1:Nat):Int) A I B L T d x.f0 x.f1 else some false) r→Ev (fun k=>C6.l2 k A (A.length:Int) (i:Int) I (I.length:Int) (j:Int) A I B L T d x.f0 x.f1) r:=fun r hr=>
      Ev.step e (Ev.congr (fun k=>by rw [if_pos h1.1,show (y.f1 != 2)=false by rw [h1.2];rfl]) (Ev.step et (B8 (E2.sums_i (E2.ofL x.f0 y.f0 L) (by have:=E2.of_len x.f0 y.f0 L;omega)) (B8 (of_i hB x.f0 y.f0) hr))))
     by_cases h2:A9.sum3 (E2.ofL x.f0 y.f0 L) 0=ofB x.f0 y.f0 B
     · exact .inl ⟨fun _=>h2,fun r hr=>mid r (Ev.congr (fun k=>if_pos h2) hr)⟩
     · exact .inr ⟨fun g=>h2 (g h1),mid _ (F3 fun k=>if_neg h2)⟩
   · refine .inl ⟨fun g=>absurd g h1,fun r hr=>Ev.step e (Ev.congr (f:=fun k=>C6.j3 k A (A.length:Int) (i:Int) I (I.length:Int) (j:Int) true A I B L T d x.f0 x.f1 y.f0 y.f1) (fun k=>?_) (Ev.step ef hr))⟩
     by_cases h3:x.f1=1
     · rw [if_pos h3,show (y.f1 != 2)=true from bne_iff_ne.2 (fun g=>h1 ⟨h3,g⟩)]
     · rw [if_neg h3]) I.length 0 (by omega) (by omega)
 obtain ⟨r1,hr1,hiff1⟩:=Y5 (fun k i=>C6.l1 k A (A.length:Int) i A I B L T d) A.length (GP A I B L) true
  (I2 fun k=>by simp only [C6.l1];rw [if_neg (by omega)])
  (fun i hi=>by
    have e:∀ k,C6.l1 (k+1) A (A.length:Int) (i:Int) A I B L T d=C6.l2 k A (A.length:Int) (i:Int) I (I.length:Int) ((0:Nat):Int) A I B L T d (A.getD i z80).f0 (A.getD i z80).f1:=fun k=>by
     simp only [C6.l1]
     rw [if_pos (by omega),if_pos (by omega),if_pos (by omega)]
     simp only [rdA]
     rfl
    rcases two i hi with ⟨h1,h2⟩ | ⟨h1,h2⟩
    · exact .inl ⟨h1,fun r hr=>Ev.step e (h2 r (Ev.step (fun k=>by simp only [C6.l2];rw [if_neg (by omega),J5 hi (by omega)]) hr))⟩
    · exact .inr ⟨h1,Ev.step e h2⟩) A.length 0 (by omega) (by omega)
 unfold C6.f
 obtain ⟨r,hr,hiff⟩:=Y5 (fun k i=>C6.l0 k L (L.length:Int) i A I B L T d) L.length (GL A I L d) r1
  (Ev.step (fun k=>by simp only [C6.l0];rw [if_neg (by omega)];rfl) hr1)
  (fun i hi=>by
    obtain ⟨x,hx⟩:∃ x,L.getD i z110=x:=⟨_,rfl⟩
    have e:∀ k,C6.l0 (k+1) L (L.length:Int) (i:Int) A I B L T d=(D3.f k A x.f0).bind fun t=>(if t=1 then ((E8.f k I x.f1).bind fun u=>if u=2 then (if x.f2>d then some false else C6.l0 k L (L.length:Int) ((i+1:Nat):Int) A I B L T d) else some false) else some false):=fun k=>by
     simp only [C6.l0]
     rw [if_pos (by omega),if_pos (by omega),if_pos (by omega),J5 hi (by omega)]
     simp only [E1.rdL,hx]
    unfold GL
    rw [hx]
    by_cases h0:U8 A x.f0=1
    · by_cases h1:Z1 I x.f1=2
      · have mid:∀ r,Ev (fun k=>if x.f2>d then some false else C6.l0 k L (L.length:Int) ((i+1:Nat):Int) A I B L T d) r→Ev (fun k=>C6.l0 k L (L.length:Int) (i:Int) A I B L T d) r:=fun r hr=>Ev.step e (B8 (A2n A x.f0 (by omega)) (Ev.congr (fun k=>if_pos h0) (B8 (A6e I x.f1 (by omega)) (Ev.congr (fun k=>if_pos h1) hr))))
        by_cases h2:x.f2>d
        · exact .inr ⟨fun g=>g.2.2 h2,mid _ (F3 fun k=>if_pos h2)⟩
        · exact .inl ⟨⟨h0,h1,h2⟩,fun r hr=>mid r (Ev.congr (fun k=>if_neg h2) hr)⟩
      · exact .inr ⟨fun g=>h1 g.2.1,Ev.step e (B8 (A2n A x.f0 (by omega)) (Ev.congr (fun k=>if_pos h0) (B8 (A6e I x.f1 (by omega)) (F3 fun k=>if_neg h1))))⟩
    · exact .inr ⟨fun g=>h0 g.1,Ev.step e (B8 (A2n A x.f0 (by omega)) (F3 fun k=>if_neg h0))⟩) L.length 0 (by omega) (by omega)
 refine ⟨r,hr,?_⟩
 rw [hiff,hiff1]
 exact ⟨fun h=>⟨fun i hi=>h.1 i (Nat.zero_le _) hi,fun i hi=>h.2.1 i (Nat.zero_le _) hi⟩,fun h=>⟨fun i _ hi=>h.1 i hi,fun i _ hi=>h.2 i hi,rfl⟩⟩
def GT (x:S60):Prop:=U8 A x.f1=1∧U8 A x.f2=1∧Z1 I x.f3=2∧Z1 I x.f5=1
theorem A8e (hA:okA A=true) (hI:okI I=true) (mA:A.length≤1048576) (mI:I.length≤1048576) (mT:T.length≤1048576):∃ r,Ev (fun k=>F5.j0 k false A I B L T d) r∧(r=true↔∀ j,j<T.length→GT A I (T.getD j z60)):=by
 obtain ⟨r,hr,hiff⟩:=Y5 (fun k i=>F5.l0 k i A I B L T d) T.length (fun j=>GT A I (T.getD j z60)) true
  (I2 fun k=>by simp only [F5.l0];rw [if_neg (by omega)])
  (fun i hi=>by
    obtain ⟨x,hx⟩:∃ x,T.getD i z60=x:=⟨_,rfl⟩
    have e:∀ k,F5.l0 (k+1) (i:Int) A I B L T d=(C9.f k A x.f1).bind fun t=>(if t=1 then ((C9.f k A x.f2).bind fun t2=>if t2=1 then ((D6.f k I x.f3).bind fun u=>if u=2 then ((D6.f k I x.f5).bind fun u2=>if u2=1 then F5.l0 k ((i+1:Nat):Int) A I B L T d else some false) else some false) else some false) else some false):=fun k=>by
     simp only [F5.l0]
     rw [if_pos (by omega),if_pos (by omega),J5 hi (by omega)]
     simp only [F1.rdT,hx]
    show (GT A I (T.getD i z60)∧_)∨(¬GT A I (T.getD i z60)∧_)
    rw [hx]
    unfold GT
    by_cases h0:U8 A x.f1=1
    · by_cases h1:U8 A x.f2=1
      · by_cases h2:Z1 I x.f3=2
        · by_cases h3:Z1 I x.f5=1
          · exact .inl ⟨⟨h0,h1,h2,h3⟩,fun r hr=>Ev.step e (B8 (kA_s hA (by omega) x.f1) (Ev.congr (fun k=>if_pos h0) (B8 (kA_s hA (by omega) x.f2) (Ev.congr (fun k=>if_pos h1) (B8 (kI_s hI (by omega) x.f3) (Ev.congr (fun k=>if_pos h2) (B8 (kI_s hI (by omega) x.f5) (Ev.congr (fun k=>if_pos h3) hr))))))))⟩
          · exact .inr ⟨fun g=>h3 g.2.2.2,Ev.step e (B8 (kA_s hA (by omega) x.f1) (Ev.congr (fun k=>if_pos h0) (B8 (kA_s hA (by omega) x.f2) (Ev.congr (fun k=>if_pos h1) (B8 (kI_s hI (by omega) x.f3) (Ev.congr (fun k=>if_pos h2) (B8 (kI_s hI (by omega) x.f5) (F3 fun k=>if_neg h3))))))))⟩
        · exact .inr ⟨fun g=>h2 g.2.2.1,Ev.step e (B8 (kA_s hA (by omega) x.f1) (Ev.congr (fun k=>if_pos h0) (B8 (kA_s hA (by omega) x.f2) (Ev.congr (fun k=>if_pos h1) (B8 (kI_s hI (by omega) x.f3) (F3 fun k=>if_neg h2))))))⟩
      · exact .inr ⟨fun g=>h1 g.2.1,Ev.step e (B8 (kA_s hA (by omega) x.f1) (Ev.congr (fun k=>if_pos h0) (B8 (kA_s hA (by omega) x.f2) (F3 fun k=>if_neg h1))))⟩
    · exact .inr ⟨fun g=>h0 g.1,Ev.step e (B8 (kA_s hA (by omega) x.f1) (F3 fun k=>if_neg h0))⟩) T.length 0 (by omega) (by omega)
 refine ⟨r,Ev.step (fun k=>by simp only [F5.j0];rw [if_neg (by decide)];rfl) hr,?_⟩
 rw [hiff]
 exact ⟨fun h i hi=>h.1 i (Nat.zero_le _) hi,fun h=>⟨fun i _ hi=>h i hi,rfl⟩⟩
theorem D2f (no:Int):∀ A:List S80,B9.ak A no=U8 A no
 | []=>rfl
 | x::xs=>by
   unfold B9.ak U8
   rw [D2f no xs]
theorem C9u (no:Int):∀ I:List S84,B9.ik I no=Z1 I no
 | []=>rfl
 | x::xs=>by
   unfold B9.ik Z1
   rw [C9u no xs]
theorem C0r (x:S60):B9.bad A I x=false↔GT A I x:=by
 unfold B9.bad GT
 simp only [D2f,C9u,Bool.or_eq_false_iff,bne_eq_false_iff_eq,and_assoc]
theorem A8f (mA:A.length≤1048576) (mI:I.length≤1048576):∃ r,B9.f A I B L T d=some r∧(r=true↔∀ j,j<T.length→GT A I (T.getD j z60)):=by
 refine ⟨_,if_pos ⟨by omega,by omega⟩,?_⟩
 rw [Bool.not_eq_true',List.any_eq_false]
 constructor
 · intro h j hj
   have hm:T.getD j z60∈T:=by
    rw [List.getD_eq_getElem?_getD,List.getElem?_eq_getElem hj]
    exact List.getElem_mem hj
   exact (C0r A I _).1 (Bool.eq_false_iff.2 (h _ hm))
 · intro h x hx
   obtain ⟨j,hj,e⟩:=List.mem_iff_getElem.1 hx
   have g:=h j hj
   rw [List.getD_eq_getElem?_getD,List.getElem?_eq_getElem hj,Option.getD_some,e] at g
   exact Bool.eq_false_iff.1 ((C0r A I x).2 g)
theorem C0n (mA:A.length≤1048576) (mI:I.length≤1048576) (mB:B.length≤1048576) (mL:L.length≤1048576) (mT:T.length≤1048576):∃ r,Ev (fun k=>F5.f k A I B L T d) r∧Ev (fun k=>J6.f k A I B L T d) r∧(r=true→okA A=true∧okI I=true∧okB B=true∧A9.ok L=true∧0≤d∧d≤1000000000):=by
 unfold F5.f J6.f
 have sS:Ev (fun k=>F5.j0 k true A I B L T d) false:=I2 fun k=>by simp only [F5.j0];rw [if_pos trivial]
 have sI:Ev (fun k=>J6.j0 k true A I B L T d) false:=I2 fun k=>by simp only [J6.j0];rw [if_pos trivial]
 have s1:=A1d A
 have i1:=B1o A (by omega)
 have s2:=A2v I
 have i2:=B6k I (by omega)
 have s3:=A4f B
 have i3:=B5y B (by omega)
 have s4:=E1.lotsOk_s L
 have i4:Ev (fun _=>A9.f L) (A9.ok L):=F3 fun _=>by unfold A9.f;rw [if_pos (by omega)]
 obtain ⟨rT,s5,i5⟩:=F1.trades_both T (by omega)
 have s6:Ev (fun _=>N9.f d 0 1000000000) (decide (0≤d∧d≤1000000000)):=F3 fun _=>I1.in_s _ _ _
 have i6:Ev (fun _=>J7.f d 0 1000000000) (decide (0≤d∧d≤1000000000)):=F3 fun _=>I1.in_i _ _ _
 cases q1:okA A with
 | false=>
   rw [q1] at s1 i1
   exact ⟨false,B8 s1 (Ev.congr (fun k=>if_neg (by decide)) sS),B8 i1 (Ev.congr (fun k=>if_neg (by decide)) sI),nofun⟩
 | true=>
   rw [q1] at s1 i1
   cases q2:okI I with
   | false=>
     rw [q2] at s2 i2
     exact ⟨false,B8 s1 (Ev.congr (fun k=>if_pos rfl) (B8 s2 (Ev.congr (fun k=>if_neg (by decide)) sS))),B8 i1 (Ev.congr (fun k=>if_pos rfl) (B8 i2 (Ev.congr (fun k=>if_neg (by decide)) sI))),nofun⟩
   | true=>
     rw [q2] at s2 i2
     cases q3:okB B with
     | false=>
       rw [q3] at s3 i3
       exact ⟨false,B8 s1 (Ev.congr (fun k=>if_pos rfl) (B8 s2 (Ev.congr (fun k=>if_pos rfl) (B8 s3 (Ev.congr (fun k=>if_neg (by decide)) sS))))),B8 i1 (Ev.congr (fun k=>if_pos rfl) (B8 i2 (Ev.congr (fun k=>if_pos rfl) (B8 i3 (Ev.congr (fun k=>if_neg (by decide)) sI))))),nofun⟩
     | true=>
       rw [q3] at s3 i3
       cases q4:A9.ok L with
       | false=>
         rw [q4] at s4 i4
         exact ⟨false,B8 s1 (Ev.congr (fun k=>if_pos rfl) (B8 s2 (Ev.congr (fun k=>if_pos rfl) (B8 s3 (Ev.congr (fun k=>if_pos rfl) (B8 s4 (Ev.congr (fun k=>if_neg (by decide)) sS))))))),B8 i1 (Ev.congr (fun k=>if_pos rfl) (B8 i2 (Ev.congr (fun k=>if_pos rfl) (B8 i3 (Ev.congr (fun k=>if_pos rfl) (B8 i4 (Ev.congr (fun k=>if_neg (by decide)) sI))))))),nofun⟩
       | true=>
         rw [q4] at s4 i4
         cases q5:rT with
         | false=>
           rw [q5] at s5 i5
           exact ⟨false,B8 s1 (Ev.congr (fun k=>if_pos rfl) (B8 s2 (Ev.congr (fun k=>if_pos rfl) (B8 s3 (Ev.congr (fun k=>if_pos rfl) (B8 s4 (Ev.congr (fun k=>if_pos rfl) (B8 s5 (Ev.congr (fun k=>if_neg (by decide)) sS))))))))),B8 i1 (Ev.congr (fun k=>if_pos rfl) (B8 i2 (Ev.congr (fun k=>if_pos rfl) (B8 i3 (Ev.congr (fun k=>if_pos rfl) (B8 i4 (Ev.congr (fun k=>if_pos rfl) (B8 i5 (Ev.congr (fun k=>if_neg (by decide)) sI))))))))),nofun⟩
         | true=>
           rw [q5] at s5 i5
           cases q6:decide (0≤d∧d≤1000000000) with
           | false=>
             rw [q6] at s6 i6
             exact ⟨false,B8 s1 (Ev.congr (fun k=>if_pos rfl) (B8 s2 (Ev.congr (fun k=>if_pos rfl) (B8 s3 (Ev.congr (fun k=>if_pos rfl) (B8 s4 (Ev.congr (fun k=>if_pos rfl) (B8 s5 (Ev.congr (fun k=>if_pos rfl) (B8 s6 (Ev.congr (fun k=>if_neg (by decide)) sS))))))))))),B8 i1 (Ev.congr (fun k=>if_pos rfl) (B8 i2 (Ev.congr (fun k=>if_pos rfl) (B8 i3 (Ev.congr (fun k=>if_pos rfl) (B8 i4 (Ev.congr (fun k=>if_pos rfl) (B8 i5 (Ev.congr (fun k=>if_pos rfl) (B8 i6 sI)))))))))),nofun⟩
           | true=>
             rw [q6] at s6 i6
             have hB:=(okB_iff B).1 q3
             obtain ⟨rb,b1,b2⟩:=D1y A I B L T d q1 q2 hB (by omega) (by omega)
             obtain ⟨rb',b3,b4⟩:=D1z A I B L T d hB (by omega) (by omega)
             obtain rfl:rb=rb':=by rw [Bool.eq_iff_iff,b2,b4]
             obtain ⟨rl,l1,l2⟩:=C9h A I B L T d q1 q2 mA mI mB mL
             obtain ⟨rl',l3,l4⟩:=C9i A I B L T d hB mA mI mL
             obtain rfl:rl=rl':=by rw [Bool.eq_iff_iff,l2,l4]
             obtain ⟨rt,t1,t2⟩:=A8e A I B L T d q1 q2 mA mI mT
             obtain ⟨rt',t3,t4⟩:=A8f A I B L T d mA mI
             obtain rfl:rt=rt':=by rw [Bool.eq_iff_iff,t2,t4]
             have ef:∀ k,J6.j0 (k+1) false A I B L T d=(F9.f k A I B L T d).bind fun t=>(if t=true then ((C6.f k A I B L T d).bind fun u=>if u=true then ((B9.f A I B L T d).bind fun v=>some v) else some false) else some false):=fun k=>by
              simp only [J6.j0]
              rw [if_neg (by decide)]
             cases rb with
             | false=>exact ⟨false,B8 s1 (Ev.congr (fun k=>if_pos rfl) (B8 s2 (Ev.congr (fun k=>if_pos rfl) (B8 s3 (Ev.congr (fun k=>if_pos rfl) (B8 s4 (Ev.congr (fun k=>if_pos rfl) (B8 s5 (Ev.congr (fun k=>if_pos rfl) (B8 s6 (Ev.congr (fun k=>if_pos rfl) (B8 b1 (Ev.congr (fun k=>if_neg (by decide)) sS))))))))))))),B8 i1 (Ev.congr (fun k=>if_pos rfl) (B8 i2 (Ev.congr (fun k=>if_pos rfl) (B8 i3 (Ev.congr (fun k=>if_pos rfl) (B8 i4 (Ev.congr (fun k=>if_pos rfl) (B8 i5 (Ev.congr (fun k=>if_pos rfl) (B8 i6 (Ev.step ef (B8 b3 (F3 fun k=>if_neg (by decide)))))))))))))),nofun⟩
             | true=>
               cases rl with
               | false=>exact ⟨false,B8 s1 (Ev.congr (fun k=>if_pos rfl) (B8 s2 (Ev.congr (fun k=>if_pos rfl) (B8 s3 (Ev.congr (fun k=>if_pos rfl) (B8 s4 (Ev.congr (fun k=>if_pos rfl) (B8 s5 (Ev.congr (fun k=>if_pos rfl) (B8 s6 (Ev.congr (fun k=>if_pos rfl) (B8 b1 (Ev.congr (fun k=>if_pos rfl) (B8 l1 sS)))))))))))))),B8 i1 (Ev.congr (fun k=>if_pos rfl) (B8 i2 (Ev.congr (fun k=>if_pos rfl) (B8 i3 (Ev.congr (fun k=>if_pos rfl) (B8 i4 (Ev.congr (fun k=>if_pos rfl) (B8 i5 (Ev.congr (fun k=>if_pos rfl) (B8 i6 (Ev.step ef (B8 b3 (Ev.congr (fun k=>if_pos rfl) (B8 l3 (F3 fun k=>if_neg (by decide)))))))))))))))),nofun⟩
               | true=>exact ⟨rt,B8 s1 (Ev.congr (fun k=>if_pos rfl) (B8 s2 (Ev.congr (fun k=>if_pos rfl) (B8 s3 (Ev.congr (fun k=>if_pos rfl) (B8 s4 (Ev.congr (fun k=>if_pos rfl) (B8 s5 (Ev.congr (fun k=>if_pos rfl) (B8 s6 (Ev.congr (fun k=>if_pos rfl) (B8 b1 (Ev.congr (fun k=>if_pos rfl) (B8 l1 t1)))))))))))))),B8 i1 (Ev.congr (fun k=>if_pos rfl) (B8 i2 (Ev.congr (fun k=>if_pos rfl) (B8 i3 (Ev.congr (fun k=>if_pos rfl) (B8 i4 (Ev.congr (fun k=>if_pos rfl) (B8 i5 (Ev.congr (fun k=>if_pos rfl) (B8 i6 (Ev.step ef (B8 b3 (Ev.congr (fun k=>if_pos rfl) (B8 l3 (Ev.congr (fun k=>if_pos rfl) (F3 fun k=>by rw [t3,Option.bind_some])))))))))))))))),fun _=>⟨rfl,rfl,rfl,rfl,of_decide_eq_true q6⟩⟩
end
end Go.Proofs.YtmfgajbkcnlkcaaGreat.K1
namespace Go.Proofs.YtmfgajbkcnlkcaaGreat.M1
open Go Go.RowKit Go.Proofs.YtmfgajbkcnlkcaaGreat.P Go.Proofs.YtmfgajbkcnlkcaaGreatW.PrintWords Go.Proofs.YtmfgajbkcnlkcaaGreatW.PrintLast Go.Proofs.YtmfgajbkcnlkcaaGreat.EV
theorem A0a {α:Type} (l:List α) (i:Nat) (x z:α) (h:i<l.length):(l.set i x).getD i z=x:=by rw [A2w,if_pos ⟨rfl,h⟩]
theorem A1j {α:Type} (l:List α) (i:Nat) (x y:α):(l.set i x).set i y=l.set i y:=List.set_set ..
def W7 (c:Int) (n:Nat):List S80:=(List.range n).map fun (j:Nat)=>(⟨c+2*(j:Int),c+2*(j:Int)+1⟩:S80)
theorem A1u (c:Int) (n:Nat):(W7 c n).length=n:=by unfold W7;simp
theorem A5b (c:Int) (n j:Nat) (h:j<n):(W7 c n).getD j z80=⟨c+2*(j:Int),c+2*(j:Int)+1⟩:=by
 unfold W7
 rw [List.getD_eq_getElem?_getD,List.getElem?_map,List.getElem?_range h]
 rfl
theorem A5y (l:List S80) (i:Nat):M2 l (i:Int)=l.getD i z80:=by unfold M2;rw [Int.toNat_natCast]
theorem B0p (l:List S80) (c:Int) (h0:0≤c) (h1:c≤1000000000000) (hl:l.length≤1048577):Ev (fun k=>I9.f k l c) (c+2*(l.length:Int),W7 c l.length):=by
 unfold I9.f
 have h:=S1 (fun k (s:List S80×Int) i=>I9.l0 k s.1 s.2 i) l.length (fun _ _=>(c+2*(l.length:Int),W7 c l.length)) (fun i s=>s.1.length=l.length∧s.2=c+2*(i:Int)∧∀ j,j<i→s.1.getD j z80=⟨c+2*(j:Int),c+2*(j:Int)+1⟩)
  (fun s hs=>I2 fun k=>by
    obtain ⟨s1,s2,s3⟩:=hs
    simp only [I9.l0]
    rw [if_neg (by omega),s2]
    congr 2
    refine A4d z80 (by rw [A1u,s1]) fun i hi=>?_
    rw [s3 i (by omega),A5b _ _ _ (by omega)])
  (fun i s hi hs=>by
    obtain ⟨s1,s2,s3⟩:=hs
    obtain ⟨l1,x⟩:=s
    dsimp only at s1 s2 s3
    refine .inr ⟨(l1.set i (⟨c+2*(i:Int),c+2*(i:Int)+1⟩:S80),c+2*((i+1:Nat):Int)),⟨by rw [List.length_set];exact s1,rfl,fun j hj=>?_⟩,rfl,fun k=>?_⟩
    · rw [A2w]
      by_cases e:i=j
      · subst e
        rw [if_pos ⟨rfl,by omega⟩]
      · rw [if_neg (fun g=>e g.1)]
        exact s3 j (by omega)
    · show I9.l0 (k+1) l1 x (i:Int)=_
      simp only [I9.l0]
      rw [if_pos (by omega),if_pos (by omega),J5 hi (by omega)]
      simp only [Option.bind_some,A5y,Int.toNat_natCast,A1j,A0a l1 i _ z80 (show i<l1.length by omega)]
      subst s2
      have w0:wrap64 (c+2*(i:Int)+1)=c+2*(i:Int)+1:=by unfold wrap64;omega
      have w1:wrap64 (c+2*(i:Int)+1+1)=c+2*(i:Int)+2:=by unfold wrap64;omega
      simp only [w0,w1]
      have e2:c+2*((i+1:Nat):Int)=c+2*(i:Int)+2:=by omega
      rw [e2]) l.length 0 (l,c) (by omega) (by omega) ⟨rfl,by omega,fun j hj=>by omega⟩
 exact h
theorem B0t (n:Nat) (c:Int) (h0:0≤c) (h1:c≤1000000000000) (hl:n≤1048577):Ev (fun k=>J0.f k (W7 c n) c) (c+2*(n:Int)):=by
 unfold J0.f
 have h:=S1 (fun k (s:Int) i=>J0.l0 k (W7 c n) s i) n (fun _ _=>c+2*(n:Int)) (fun i s=>s=c+2*(i:Int))
  (fun s hs=>I2 fun k=>by
    simp only [J0.l0]
    rw [if_neg (by rw [A1u];omega),hs])
  (fun i s hi hs=>by
    refine .inr ⟨c+2*((i+1:Nat):Int),rfl,rfl,fun k=>?_⟩
    show J0.l0 (k+1) (W7 c n) s (i:Int)=_
    subst hs
    simp only [J0.l0]
    rw [if_pos (by rw [A1u];omega),if_pos (by omega),J5 hi (by omega)]
    simp only [A5y,A5b c n i hi]
    have w0:wrap64 (c+2*(i:Int)+1)=c+2*(i:Int)+1:=by unfold wrap64;omega
    have w1:wrap64 (c+2*(i:Int)+1+1)=c+2*(i:Int)+2:=by unfold wrap64;omega
    simp only [w0,w1]
    have e2:c+2*((i+1:Nat):Int)=c+2*(i:Int)+2:=by omega
    rw [if_pos trivial,if_pos trivial,e2]) n 0 c (by omega) (by omega) (by omega)
 exact h
def A1f (c:Int) (n:Nat):List S84:=(List.range n).map fun (j:Nat)=>(⟨c+2*(j:Int),c+2*(j:Int)+1⟩:S84)
theorem A3h (c:Int) (n:Nat):(A1f c n).length=n:=by unfold A1f;simp
theorem A7o (c:Int) (n j:Nat) (h:j<n):(A1f c n).getD j z84=⟨c+2*(j:Int),c+2*(j:Int)+1⟩:=by
 unfold A1f
 rw [List.getD_eq_getElem?_getD,List.getElem?_map,List.getElem?_range h]
 rfl
theorem B0g (l:List S84) (i:Nat):M5 l (i:Int)=l.getD i z84:=by unfold M5;rw [Int.toNat_natCast]
theorem B6j (l:List S84) (c:Int) (h0:0≤c) (h1:c≤1000000000000) (hl:l.length≤1048577):Ev (fun k=>K5.f k l c) (c+2*(l.length:Int),A1f c l.length):=by
 unfold K5.f
 have h:=S1 (fun k (s:List S84×Int) i=>K5.l0 k s.1 s.2 i) l.length (fun _ _=>(c+2*(l.length:Int),A1f c l.length)) (fun i s=>s.1.length=l.length∧s.2=c+2*(i:Int)∧∀ j,j<i→s.1.getD j z84=⟨c+2*(j:Int),c+2*(j:Int)+1⟩)
  (fun s hs=>I2 fun k=>by
    obtain ⟨s1,s2,s3⟩:=hs
    simp only [K5.l0]
    rw [if_neg (by omega),s2]
    congr 2
    refine A4d z84 (by rw [A3h,s1]) fun i hi=>?_
    rw [s3 i (by omega),A7o _ _ _ (by omega)])
  (fun i s hi hs=>by
    obtain ⟨s1,s2,s3⟩:=hs
    obtain ⟨l1,x⟩:=s
    dsimp only at s1 s2 s3
    refine .inr ⟨(l1.set i (⟨c+2*(i:Int),c+2*(i:Int)+1⟩:S84),c+2*((i+1:Nat):Int)),⟨by rw [List.length_set];exact s1,rfl,fun j hj=>?_⟩,rfl,fun k=>?_⟩
    · rw [A2w]
      by_cases e:i=j
      · subst e
        rw [if_pos ⟨rfl,by omega⟩]
      · rw [if_neg (fun g=>e g.1)]
        exact s3 j (by omega)
    · show K5.l0 (k+1) l1 x (i:Int)=_
      simp only [K5.l0]
      rw [if_pos (by omega),if_pos (by omega),J5 hi (by omega)]
      simp only [Option.bind_some,B0g,Int.toNat_natCast,A1j,A0a l1 i _ z84 (show i<l1.length by omega)]
      subst s2
      have w0:wrap64 (c+2*(i:Int)+1)=c+2*(i:Int)+1:=by unfold wrap64;omega
      have w1:wrap64 (c+2*(i:Int)+1+1)=c+2*(i:Int)+2:=by unfold wrap64;omega
      simp only [w0,w1]
      have e2:c+2*((i+1:Nat):Int)=c+2*(i:Int)+2:=by omega
      rw [e2]) l.length 0 (l,c) (by omega) (by omega) ⟨rfl,by omega,fun j hj=>by omega⟩
 exact h
theorem B6n (n:Nat) (c:Int) (h0:0≤c) (h1:c≤1000000000000) (hl:n≤1048577):Ev (fun k=>K9.f k (A1f c n) c) (c+2*(n:Int)):=by
 unfold K9.f
 have h:=S1 (fun k (s:Int) i=>K9.l0 k (A1f c n) s i) n (fun _ _=>c+2*(n:Int)) (fun i s=>s=c+2*(i:Int))
  (fun s hs=>I2 fun k=>by
    simp only [K9.l0]
    rw [if_neg (by rw [A3h];omega),hs])
  (fun i s hi hs=>by
    refine .inr ⟨c+2*((i+1:Nat):Int),rfl,rfl,fun k=>?_⟩
    show K9.l0 (k+1) (A1f c n) s (i:Int)=_
    subst hs
    simp only [K9.l0]
    rw [if_pos (by rw [A3h];omega),if_pos (by omega),J5 hi (by omega)]
    simp only [B0g,A7o c n i hi]
    have w0:wrap64 (c+2*(i:Int)+1)=c+2*(i:Int)+1:=by unfold wrap64;omega
    have w1:wrap64 (c+2*(i:Int)+1+1)=c+2*(i:Int)+2:=by unfold wrap64;omega
    simp only [w0,w1]
    have e2:c+2*((i+1:Nat):Int)=c+2*(i:Int)+2:=by omega
    rw [if_pos trivial,if_pos trivial,e2]) n 0 c (by omega) (by omega) (by omega)
 exact h
def A6z (c:Int) (n:Nat):List S106:=(List.range n).map fun (j:Nat)=>(⟨c+3*(j:Int),c+3*(j:Int)+1,c+3*(j:Int)+2⟩:S106)
theorem A6c (c:Int) (n:Nat):(A6z c n).length=n:=by unfold A6z;simp
theorem B5e (c:Int) (n j:Nat) (h:j<n):(A6z c n).getD j z106=⟨c+3*(j:Int),c+3*(j:Int)+1,c+3*(j:Int)+2⟩:=by
 unfold A6z
 rw [List.getD_eq_getElem?_getD,List.getElem?_map,List.getElem?_range h]
 rfl
theorem B7r (l:List S106) (i:Nat):C8 l (i:Int)=l.getD i z106:=by unfold C8;rw [Int.toNat_natCast]
theorem C4f (l:List S106) (c:Int) (h0:0≤c) (h1:c≤1000000000000) (hl:l.length≤1048577):Ev (fun k=>N0.f k l c) (c+3*(l.length:Int),A6z c l.length):=by
 unfold N0.f
 have h:=S1 (fun k (s:List S106×Int) i=>N0.l0 k s.1 s.2 i) l.length (fun _ _=>(c+3*(l.length:Int),A6z c l.length)) (fun i s=>s.1.length=l.length∧s.2=c+3*(i:Int)∧∀ j,j<i→s.1.getD j z106=⟨c+3*(j:Int),c+3*(j:Int)+1,c+3*(j:Int)+2⟩)
  (fun s hs=>I2 fun k=>by
    obtain ⟨s1,s2,s3⟩:=hs
    simp only [N0.l0]
    rw [if_neg (by omega),s2]
    congr 2
    refine A4d z106 (by rw [A6c,s1]) fun i hi=>?_
    rw [s3 i (by omega),B5e _ _ _ (by omega)])
  (fun i s hi hs=>by
    obtain ⟨s1,s2,s3⟩:=hs
    obtain ⟨l1,x⟩:=s
    dsimp only at s1 s2 s3
    refine .inr ⟨(l1.set i (⟨c+3*(i:Int),c+3*(i:Int)+1,c+3*(i:Int)+2⟩:S106),c+3*((i+1:Nat):Int)),⟨by rw [List.length_set];exact s1,rfl,fun j hj=>?_⟩,rfl,fun k=>?_⟩
    · rw [A2w]
      by_cases e:i=j
      · subst e
        rw [if_pos ⟨rfl,by omega⟩]
      · rw [if_neg (fun g=>e g.1)]
        exact s3 j (by omega)
    · show N0.l0 (k+1) l1 x (i:Int)=_
      simp only [N0.l0]
      rw [if_pos (by omega),if_pos (by omega),J5 hi (by omega)]
      simp only [Option.bind_some,B7r,Int.toNat_natCast,A1j,A0a l1 i _ z106 (show i<l1.length by omega)]
      subst s2
      have w0:wrap64 (c+3*(i:Int)+1)=c+3*(i:Int)+1:=by unfold wrap64;omega
      have w1:wrap64 (c+3*(i:Int)+1+1)=c+3*(i:Int)+2:=by unfold wrap64;omega
      have w2:wrap64 (c+3*(i:Int)+2+1)=c+3*(i:Int)+3:=by unfold wrap64;omega
      simp only [w0,w1,w2]
      have e2:c+3*((i+1:Nat):Int)=c+3*(i:Int)+3:=by omega
      rw [e2]) l.length 0 (l,c) (by omega) (by omega) ⟨rfl,by omega,fun j hj=>by omega⟩
 exact h
theorem C4p (n:Nat) (c:Int) (h0:0≤c) (h1:c≤1000000000000) (hl:n≤1048577):Ev (fun k=>N3.f k (A6z c n) c) (c+3*(n:Int)):=by
 unfold N3.f
 have h:=S1 (fun k (s:Int) i=>N3.l0 k (A6z c n) s i) n (fun _ _=>c+3*(n:Int)) (fun i s=>s=c+3*(i:Int))
  (fun s hs=>I2 fun k=>by
    simp only [N3.l0]
    rw [if_neg (by rw [A6c];omega),hs])
  (fun i s hi hs=>by
    refine .inr ⟨c+3*((i+1:Nat):Int),rfl,rfl,fun k=>?_⟩
    show N3.l0 (k+1) (A6z c n) s (i:Int)=_
    subst hs
    simp only [N3.l0]
    rw [if_pos (by rw [A6c];omega),if_pos (by omega),J5 hi (by omega)]
    simp only [B7r,B5e c n i hi]
    have w0:wrap64 (c+3*(i:Int)+1)=c+3*(i:Int)+1:=by unfold wrap64;omega
    have w1:wrap64 (c+3*(i:Int)+1+1)=c+3*(i:Int)+2:=by unfold wrap64;omega
    have w2:wrap64 (c+3*(i:Int)+2+1)=c+3*(i:Int)+3:=by unfold wrap64;omega
    simp only [w0,w1,w2]
    have e2:c+3*((i+1:Nat):Int)=c+3*(i:Int)+3:=by omega
    rw [if_pos trivial,if_pos trivial,if_pos trivial,e2]) n 0 c (by omega) (by omega) (by omega)
 exact h
def A6y (c:Int) (n:Nat):List S110:=(List.range n).map fun (j:Nat)=>(⟨c+5*(j:Int),c+5*(j:Int)+1,c+5*(j:Int)+2,c+5*(j:Int)+3,c+5*(j:Int)+4⟩:S110)
theorem A6b (c:Int) (n:Nat):(A6y c n).length=n:=by unfold A6y;simp
theorem B5d (c:Int) (n j:Nat) (h:j<n):(A6y c n).getD j z110=⟨c+5*(j:Int),c+5*(j:Int)+1,c+5*(j:Int)+2,c+5*(j:Int)+3,c+5*(j:Int)+4⟩:=by
 unfold A6y
 rw [List.getD_eq_getElem?_getD,List.getElem?_map,List.getElem?_range h]
 rfl
theorem B7q (l:List S110) (i:Nat):A4 l (i:Int)=l.getD i z110:=by unfold A4;rw [Int.toNat_natCast]
theorem C4e (l:List S110) (c:Int) (h0:0≤c) (h1:c≤1000000000000) (hl:l.length≤1048577):Ev (fun k=>M9.f k l c) (c+5*(l.length:Int),A6y c l.length):=by
 unfold M9.f
 have h:=S1 (fun k (s:List S110×Int) i=>M9.l0 k s.1 s.2 i) l.length (fun _ _=>(c+5*(l.length:Int),A6y c l.length)) (fun i s=>s.1.length=l.length∧s.2=c+5*(i:Int)∧∀ j,j<i→s.1.getD j z110=⟨c+5*(j:Int),c+5*(j:Int)+1,c+5*(j:Int)+2,c+5*(j:Int)+3,c+5*(j:Int)+4⟩)
  (fun s hs=>I2 fun k=>by
    obtain ⟨s1,s2,s3⟩:=hs
    simp only [M9.l0]
    rw [if_neg (by omega),s2]
    congr 2
    refine A4d z110 (by rw [A6b,s1]) fun i hi=>?_
    rw [s3 i (by omega),B5d _ _ _ (by omega)])
  (fun i s hi hs=>by
    obtain ⟨s1,s2,s3⟩:=hs
    obtain ⟨l1,x⟩:=s
    dsimp only at s1 s2 s3
    refine .inr ⟨(l1.set i (⟨c+5*(i:Int),c+5*(i:Int)+1,c+5*(i:Int)+2,c+5*(i:Int)+3,c+5*(i:Int)+4⟩:S110),c+5*((i+1:Nat):Int)),⟨by rw [List.length_set];exact s1,rfl,fun j hj=>?_⟩,rfl,fun k=>?_⟩
    · rw [A2w]
      by_cases e:i=j
      · subst e
        rw [if_pos ⟨rfl,by omega⟩]
      · rw [if_neg (fun g=>e g.1)]
        exact s3 j (by omega)
    · show M9.l0 (k+1) l1 x (i:Int)=_
      simp only [M9.l0]
      rw [if_pos (by omega),if_pos (by omega),J5 hi (by omega)]
      simp only [Option.bind_some,B7q,Int.toNat_natCast,A1j,A0a l1 i _ z110 (show i<l1.length by omega)]
      subst s2
      have w0:wrap64 (c+5*(i:Int)+1)=c+5*(i:Int)+1:=by unfold wrap64;omega
      have w1:wrap64 (c+5*(i:Int)+1+1)=c+5*(i:Int)+2:=by unfold wrap64;omega
      have w2:wrap64 (c+5*(i:Int)+2+1)=c+5*(i:Int)+3:=by unfold wrap64;omega
      have w3:wrap64 (c+5*(i:Int)+3+1)=c+5*(i:Int)+4:=by unfold wrap64;omega
      have w4:wrap64 (c+5*(i:Int)+4+1)=c+5*(i:Int)+5:=by unfold wrap64;omega
      simp only [w0,w1,w2,w3,w4]
      have e2:c+5*((i+1:Nat):Int)=c+5*(i:Int)+5:=by omega
      rw [e2]) l.length 0 (l,c) (by omega) (by omega) ⟨rfl,by omega,fun j hj=>by omega⟩
 exact h
theorem C4o (n:Nat) (c:Int) (h0:0≤c) (h1:c≤1000000000000) (hl:n≤1048577):Ev (fun k=>N2.f k (A6y c n) c) (c+5*(n:Int)):=by
 unfold N2.f
 have h:=S1 (fun k (s:Int) i=>N2.l0 k (A6y c n) s i) n (fun _ _=>c+5*(n:Int)) (fun i s=>s=c+5*(i:Int))
  (fun s hs=>I2 fun k=>by
    simp only [N2.l0]
    rw [if_neg (by rw [A6b];omega),hs])
  (fun i s hi hs=>by
    refine .inr ⟨c+5*((i+1:Nat):Int),rfl,rfl,fun k=>?_⟩
    show N2.l0 (k+1) (A6y c n) s (i:Int)=_
    subst hs
    simp only [N2.l0]
    rw [if_pos (by rw [A6b];omega),if_pos (by omega),J5 hi (by omega)]
    simp only [B7q,B5d c n i hi]
    have w0:wrap64 (c+5*(i:Int)+1)=c+5*(i:Int)+1:=by unfold wrap64;omega
    have w1:wrap64 (c+5*(i:Int)+1+1)=c+5*(i:Int)+2:=by unfold wrap64;omega
    have w2:wrap64 (c+5*(i:Int)+2+1)=c+5*(i:Int)+3:=by unfold wrap64;omega
    have w3:wrap64 (c+5*(i:Int)+3+1)=c+5*(i:Int)+4:=by unfold wrap64;omega
    have w4:wrap64 (c+5*(i:Int)+4+1)=c+5*(i:Int)+5:=by unfold wrap64;omega
    simp only [w0,w1,w2,w3,w4]
    have e2:c+5*((i+1:Nat):Int)=c+5*(i:Int)+5:=by omega
    rw [if_pos trivial,if_pos trivial,if_pos trivial,if_pos trivial,if_pos trivial,e2]) n 0 c (by omega) (by omega) (by omega)
 exact h
def A1e (c:Int) (n:Nat):List S60:=(List.range n).map fun (j:Nat)=>(⟨c+8*(j:Int),c+8*(j:Int)+1,c+8*(j:Int)+2,c+8*(j:Int)+3,c+8*(j:Int)+4,c+8*(j:Int)+5,c+8*(j:Int)+6,c+8*(j:Int)+7⟩:S60)
theorem A3g (c:Int) (n:Nat):(A1e c n).length=n:=by unfold A1e;simp
theorem A7n (c:Int) (n j:Nat) (h:j<n):(A1e c n).getD j z60=⟨c+8*(j:Int),c+8*(j:Int)+1,c+8*(j:Int)+2,c+8*(j:Int)+3,c+8*(j:Int)+4,c+8*(j:Int)+5,c+8*(j:Int)+6,c+8*(j:Int)+7⟩:=by
 unfold A1e
 rw [List.getD_eq_getElem?_getD,List.getElem?_map,List.getElem?_range h]
 rfl
theorem B0f (l:List S60) (i:Nat):B7 l (i:Int)=l.getD i z60:=by unfold B7;rw [Int.toNat_natCast]
theorem B6i (l:List S60) (c:Int) (h0:0≤c) (h1:c≤1000000000000) (hl:l.length≤1048577):Ev (fun k=>K4.f k l c) (c+8*(l.length:Int),A1e c l.length):=by
 unfold K4.f
 have h:=S1 (fun k (s:List S60×Int) i=>K4.l0 k s.1 s.2 i) l.length (fun _ _=>(c+8*(l.length:Int),A1e c l.length)) (fun i s=>s.1.length=l.length∧s.2=c+8*(i:Int)∧∀ j,j<i→s.1.getD j z60=⟨c+8*(j:Int),c+8*(j:Int)+1,c+8*(j:Int)+2,c+8*(j:Int)+3,c+8*(j:Int)+4,c+8*(j:Int)+5,c+8*(j:Int)+6,c+8*(j:Int)+7⟩)
  (fun s hs=>I2 fun k=>by
    obtain ⟨s1,s2,s3⟩:=hs
    simp only [K4.l0]
    rw [if_neg (by omega),s2]
    congr 2
    refine A4d z60 (by rw [A3g,s1]) fun i hi=>?_
    rw [s3 i (by omega),A7n _ _ _ (by omega)])
  (fun i s hi hs=>by
    obtain ⟨s1,s2,s3⟩:=hs
    obtain ⟨l1,x⟩:=s
    dsimp only at s1 s2 s3
    refine .inr ⟨(l1.set i (⟨c+8*(i:Int),c+8*(i:Int)+1,c+8*(i:Int)+2,c+8*(i:Int)+3,c+8*(i:Int)+4,c+8*(i:Int)+5,c+8*(i:Int)+6,c+8*(i:Int)+7⟩:S60),c+8*((i+1:Nat):Int)),⟨by rw [List.length_set];exact s1,rfl,fun j hj=>?_⟩,rfl,fun k=>?_⟩
    · rw [A2w]
      by_cases e:i=j
      · subst e
        rw [if_pos ⟨rfl,by omega⟩]
      · rw [if_neg (fun g=>e g.1)]
        exact s3 j (by omega)
    · show K4.l0 (k+1) l1 x (i:Int)=_
      simp only [K4.l0]
      rw [if_pos (by omega),if_pos (by omega),J5 hi (by omega)]
      simp only [Option.bind_some,B0f,Int.toNat_natCast,A1j,A0a l1 i _ z60 (show i<l1.length by omega)]
      subst s2
      have w0:wrap64 (c+8*(i:Int)+1)=c+8*(i:Int)+1:=by unfold wrap64;omega
      have w1:wrap64 (c+8*(i:Int)+1+1)=c+8*(i:Int)+2:=by unfold wrap64;omega
      have w2:wrap64 (c+8*(i:Int)+2+1)=c+8*(i:Int)+3:=by unfold wrap64;omega
      have w3:wrap64 (c+8*(i:Int)+3+1)=c+8*(i:Int)+4:=by unfold wrap64;omega
      have w4:wrap64 (c+8*(i:Int)+4+1)=c+8*(i:Int)+5:=by unfold wrap64;omega
      have w5:wrap64 (c+8*(i:Int)+5+1)=c+8*(i:Int)+6:=by unfold wrap64;omega
      have w6:wrap64 (c+8*(i:Int)+6+1)=c+8*(i:Int)+7:=by unfold wrap64;omega
      have w7:wrap64 (c+8*(i:Int)+7+1)=c+8*(i:Int)+8:=by unfold wrap64;omega
      simp only [w0,w1,w2,w3,w4,w5,w6,w7]
      have e2:c+8*((i+1:Nat):Int)=c+8*(i:Int)+8:=by omega
      rw [e2]) l.length 0 (l,c) (by omega) (by omega) ⟨rfl,by omega,fun j hj=>by omega⟩
 exact h
theorem B6m (n:Nat) (c:Int) (h0:0≤c) (h1:c≤1000000000000) (hl:n≤1048577):Ev (fun k=>K6.f k (A1e c n) c) (c+8*(n:Int)):=by
 unfold K6.f
 have h:=S1 (fun k (s:Int) i=>K6.l0 k (A1e c n) s i) n (fun _ _=>c+8*(n:Int)) (fun i s=>s=c+8*(i:Int))
  (fun s hs=>I2 fun k=>by
    simp only [K6.l0]
    rw [if_neg (by rw [A3g];omega),hs])
  (fun i s hi hs=>by
    refine .inr ⟨c+8*((i+1:Nat):Int),rfl,rfl,fun k=>?_⟩
    show K6.l0 (k+1) (A1e c n) s (i:Int)=_
    subst hs
    simp only [K6.l0]
    rw [if_pos (by rw [A3g];omega),if_pos (by omega),J5 hi (by omega)]
    simp only [B0f,A7n c n i hi]
    have w0:wrap64 (c+8*(i:Int)+1)=c+8*(i:Int)+1:=by unfold wrap64;omega
    have w1:wrap64 (c+8*(i:Int)+1+1)=c+8*(i:Int)+2:=by unfold wrap64;omega
    have w2:wrap64 (c+8*(i:Int)+2+1)=c+8*(i:Int)+3:=by unfold wrap64;omega
    have w3:wrap64 (c+8*(i:Int)+3+1)=c+8*(i:Int)+4:=by unfold wrap64;omega
    have w4:wrap64 (c+8*(i:Int)+4+1)=c+8*(i:Int)+5:=by unfold wrap64;omega
    have w5:wrap64 (c+8*(i:Int)+5+1)=c+8*(i:Int)+6:=by unfold wrap64;omega
    have w6:wrap64 (c+8*(i:Int)+6+1)=c+8*(i:Int)+7:=by unfold wrap64;omega
    have w7:wrap64 (c+8*(i:Int)+7+1)=c+8*(i:Int)+8:=by unfold wrap64;omega
    simp only [w0,w1,w2,w3,w4,w5,w6,w7]
    have e2:c+8*((i+1:Nat):Int)=c+8*(i:Int)+8:=by omega
    rw [if_pos trivial,if_pos trivial,if_pos trivial,if_pos trivial,if_pos trivial,if_pos trivial,if_pos trivial,if_pos trivial,e2]) n 0 c (by omega) (by omega) (by omega)
 exact h
end Go.Proofs.YtmfgajbkcnlkcaaGreat.M1
namespace Go.Proofs.YtmfgajbkcnlkcaaGreat.BK
open Go Go.RowKit Go.Proofs.YtmfgajbkcnlkcaaGreat.P Go.Proofs.YtmfgajbkcnlkcaaGreatW.PrintWords Go.Proofs.YtmfgajbkcnlkcaaGreatW.PrintLast Go.Proofs.YtmfgajbkcnlkcaaGreat.EV Go.Proofs.YtmfgajbkcnlkcaaGreat.M1
theorem A7p (A:List S80) (I:List S84) (B:List S106) (L:List S110) (T:List S60) (d:Int) (mA:A.length≤1048577) (mI:I.length≤1048577) (mB:B.length≤1048577) (mL:L.length≤1048577) (mT:T.length≤1048577) :
 ∃ r:Int×List S80×List S84×List S106×List S110×List S60,0≤r.1∧Ev (fun k=>S6.f k A I B L T d 1) r∧Ev (fun k=>S7.f k r.2.1 r.2.2.1 r.2.2.2.1 r.2.2.2.2.1 r.2.2.2.2.2 d 1) r.1:=by
 unfold S6.f S7.f
 refine ⟨(1+2*(A.length:Int)+2*(I.length:Int)+3*(B.length:Int)+5*(L.length:Int)+8*(T.length:Int),W7 1 A.length,A1f (1+2*(A.length:Int)) I.length,A6z (1+2*(A.length:Int)+2*(I.length:Int)) B.length,A6y (1+2*(A.length:Int)+2*(I.length:Int)+3*(B.length:Int)) L.length,A1e (1+2*(A.length:Int)+2*(I.length:Int)+3*(B.length:Int)+5*(L.length:Int)) T.length),by dsimp only;omega,?_,?_⟩
 · exact B8 (B0p A 1 (by omega) (by omega) mA) (B8 (B6j I _ (by omega) (by omega) mI) (B8 (C4f B _ (by omega) (by omega) mB) (B8 (C4e L _ (by omega) (by omega) mL) (B8 (B6i T _ (by omega) (by omega) mT) (F3 fun _=>rfl)))))
 · exact B8 (B0t A.length 1 (by omega) (by omega) mA) (Ev.congr (fun k=>if_neg (by omega)) (B8 (B6n I.length _ (by omega) (by omega) mI) (Ev.congr (fun k=>if_neg (by omega)) (B8 (C4p B.length _ (by omega) (by omega) mB) (Ev.congr (fun k=>if_neg (by omega)) (B8 (C4o L.length _ (by omega) (by omega) mL) (Ev.congr (fun k=>if_neg (by omega)) (B8 (B6m T.length _ (by omega) (by omega) mT) (F3 fun k=>if_neg (by omega))))))))))
end Go.Proofs.YtmfgajbkcnlkcaaGreat.BK
namespace Go.Proofs.YtmfgajbkcnlkcaaGreat.BC
open Go Go.RowKit Go.Proofs.YtmfgajbkcnlkcaaGreat.P Go.Proofs.YtmfgajbkcnlkcaaGreatW.PrintWords Go.Proofs.YtmfgajbkcnlkcaaGreatW.PrintLast Go.Proofs.YtmfgajbkcnlkcaaGreat.EV
abbrev LA:=List S80
abbrev LI:=List S84
abbrev LB:=List S106
abbrev LL:=List S110
abbrev LT:=List S60
theorem D1v (A:LA) (I:LI) (B:LB) (L:LL) (T:LT) (d:Int) (mA:A.length≤1048576) (mI:I.length≤1048576) (mB:B.length≤1048576) (mL:L.length≤1048576) (mT:T.length≤1048576):D5.f A I B L T d=some (A,I,B,L,T,d):=by
 unfold D5.f
 simp only [Option.bind_some,List.length_nil,Nat.zero_add,List.nil_append]
 rw [if_pos (by omega),if_pos (by omega),if_pos (by omega),if_pos (by omega),if_pos (by omega)]
theorem D1w (A:LA) (I:LI) (B:LB) (L:LL) (T:LT) (d:Int) (mA:A.length≤1048576) (mI:I.length≤1048576) (mB:B.length≤1048576) (mL:L.length≤1048576) (mT:T.length≤1048576):E9.f A I B L T d=some (A,I,B,L,T,d):=by
 unfold E9.f T0.f U7.f O2.f J1.f Z2.f
 simp only [Option.bind_some,List.length_nil,Nat.zero_add,List.nil_append]
 rw [if_pos (by omega),Option.bind_some,if_pos (by omega),Option.bind_some,if_pos (by omega),Option.bind_some,if_pos (by omega),Option.bind_some,if_pos (by omega),Option.bind_some]
def C0y (r:LA×LI×LB×LL×LT×Int):Prop:=r.1.length≤1048577∧r.2.1.length≤1048577∧r.2.2.1.length≤1048577∧r.2.2.2.1.length≤1048577∧r.2.2.2.2.1.length≤1048577
end Go.Proofs.YtmfgajbkcnlkcaaGreat.BC
namespace Go.Proofs.YtmfgajbkcnlkcaaGreat.B3
open Go Go.RowKit Go.Proofs.YtmfgajbkcnlkcaaGreat.P Go.Proofs.YtmfgajbkcnlkcaaGreatW.PrintWords Go.Proofs.YtmfgajbkcnlkcaaGreatW.PrintLast Go.Proofs.YtmfgajbkcnlkcaaGreat.EV Go.Proofs.YtmfgajbkcnlkcaaGreat.I1 Go.Proofs.YtmfgajbkcnlkcaaGreat.N1 Go.Proofs.YtmfgajbkcnlkcaaGreat.B1 Go.Proofs.YtmfgajbkcnlkcaaGreat.B2
theorem A0u {α:Type} (z:α) (l:List α) (i:Nat) (h:i<l.length):l.take (i+1)=l.take i++[l.getD i z]:=by
 rw [List.take_add_one,List.getD_eq_getElem?_getD,List.getElem?_eq_getElem h]
 rfl
theorem B9y {α:Type} (z:α) (l:List α) (p i:Nat):(l.drop p).getD i z=l.getD (p+i) z:=by
 rw [List.getD_eq_getElem?_getD,List.getElem?_drop,List.getD_eq_getElem?_getD]
theorem Z9 {α:Type} (z:α) (l:List α) (i:Nat) (h:i<l.length):l.getD i z=l[i]:=by
 rw [List.getD_eq_getElem?_getD,List.getElem?_eq_getElem h]
 rfl
abbrev Lt (x y:SB):Prop:=Bef x.f0 x.f1 y.f0 y.f1
def D2j (x:SB):Prop:=No x.f0∧No x.f1∧Amt x.f2∧x.f2≠0
def A4w (l:List SB):Prop:=(∀ x∈l,D2j x)∧l.Pairwise Lt
theorem A1i {l:List SB} (h:A4w l):∀ j,j<l.length→A6t l j:=by
 intro j hj
 have g:D2j (l.getD j z106):=by rw [Z9 _ l j hj];exact h.1 _ (List.getElem_mem hj)
 refine ⟨g.1,g.2.1,g.2.2.1,g.2.2.2,fun h0=>?_⟩
 rw [Z9 _ l j hj,Z9 _ l (j-1) (by omega)]
 exact List.pairwise_iff_getElem.1 h.2 (j-1) j (by omega) hj (by omega)
theorem B6o {l:List SB} (h:∀ j,j<l.length→A6t l j):A4w l:=by
 refine ⟨fun x hx=>?_,List.pairwise_iff_getElem.2 fun i j hi hj hij=>?_⟩
 · obtain ⟨j,hj,rfl⟩:=List.getElem_of_mem hx
   have g:=h j hj
   unfold A6t at g
   rw [Z9 _ l j hj] at g
   exact ⟨g.1,g.2.1,g.2.2.1,g.2.2.2.1⟩
 · have g:=B2.ahead h (j-i) i j rfl hij hj
   rw [Z9 _ l j hj,Z9 _ l i hi] at g
   exact g
theorem B5a (l:List SB):OkB l↔l.length≤160∧A4w l:=⟨fun h=>⟨h.1,B6o h.2⟩,fun h=>⟨h.1,A1i h.2⟩⟩
def key (x:SB) (a b:Int):Prop:=x.f0=a∧x.f1=b
instance (x:SB) (a b:Int):Decidable (key x a b):=by unfold key;exact inferInstance
theorem A5k (a b:Int):∀ (l:List SB) (i j:Nat),i+j<(atB a b l i).1→Bef (l.getD j z106).f0 (l.getD j z106).f1 a b
 | [],i,j,h=>by unfold atB at h;exact absurd h (by show ¬ (i+j<i);omega)
 | x::l,i,j,h=>by
   unfold atB at h
   split at h
   · exact absurd h (by show ¬ (i+j<i);omega)
   · rename_i hc
     have hb:Bef x.f0 x.f1 a b:=by
      apply Classical.byContradiction
      intro g
      exact hc (A1z.2 g)
     cases j with
     | zero=>exact hb
     | succ j=>exact A5k a b l (i+1) j (by omega)
theorem A5j (a b:Int):∀ (l:List SB) (i:Nat),(atB a b l i).1<i+l.length→¬ Bef (l.getD ((atB a b l i).1-i) z106).f0 (l.getD ((atB a b l i).1-i) z106).f1 a b∧((atB a b l i).2=true↔key (l.getD ((atB a b l i).1-i) z106) a b)
 | [],i,h=>by unfold atB at h;exact absurd h (by simp)
 | x::l,i,h=>by
   have hr:=X6 a b l (i+1)
   unfold atB at h ⊢
   split
   · rename_i hc
     rw [show (i,cmp x.f0 x.f1 a b == 0).1-i=0 by show i-i=0;omega]
     refine ⟨A1z.1 hc,?_⟩
     show ((cmp x.f0 x.f1 a b == 0)=true↔key x a b)
     rw [beq_iff_eq,A5h]
     rfl
   · rename_i hc
     rw [if_neg hc,List.length_cons] at h
     have g:=A5j a b l (i+1) (by omega)
     rw [show (atB a b l (i+1)).1-i=((atB a b l (i+1)).1-(i+1))+1 by omega]
     exact g
theorem C8b (a b:Int) (l:List SB) (h:(atB a b l 0).1=l.length):(atB a b l 0).2=false:=by
 cases e:(atB a b l 0).2 with
 | false=>rfl
 | true=>
   have:=(X6 a b l 0).2.2 e
   omega
def ins (a b n:Int):List SB:=if n=0 then [] else [⟨a,b,n⟩]
def nxt (a b:Int) (l:List SB):Nat:=if (atB a b l 0).2=true then (atB a b l 0).1+1 else (atB a b l 0).1
def putB (l:List SB) (a b n:Int):List SB:=l.take (atB a b l 0).1++ins a b n++l.drop (nxt a b l)
theorem B8h (a b:Int) (l:List SB):(atB a b l 0).1≤nxt a b l∧nxt a b l≤l.length:=by
 have:=X6 a b l 0
 unfold nxt
 split
 · rename_i h
   have:=this.2.2 h
   omega
 · omega
theorem B4u (l:List SB) (a b n:Int):(putB l a b n).length≤l.length+1:=by
 have:=X6 a b l 0
 have:=B8h a b l
 unfold putB ins
 rw [List.length_append,List.length_append,List.length_take,List.length_drop]
 split<;>simp<;>omega
theorem C0j (x:List SB) (hx:x.length≤1048577):O2.f x=some x:=by
 unfold O2.f
 rw [Option.bind_some,List.length_nil,if_pos (by omega),List.nil_append]
theorem D2t (l:List SB) (a b n:Int) (hm:l.length≤1048576):Ev (fun k=>T7.f k l a b n) (putB l a b n):=by
 unfold T7.f
 refine Ev.congr (fun k=>by rw [C0j l (by omega),Option.bind_some]) ?_
 refine B8 (at_i l a b (by omega)) ?_
 have hr:=X6 a b l 0
 unfold putB nxt ins
 cases e:(atB a b l 0).2 with
 | true=>
   have hp:=hr.2.2 e
   rw [if_pos (show true=true from rfl)]
   refine F3 fun k=>?_
   dsimp only
   rw [if_pos rfl,J5 (n:=l.length) (by omega) (by omega)]
   unfold O0.f
   rw [if_pos ⟨by omega,by omega,by omega,by omega⟩,Option.bind_some,Int.toNat_natCast,Int.toNat_natCast]
   by_cases h:n=0
   · rw [if_pos h,if_pos h,List.append_nil]
   · rw [if_neg h,if_neg h]
     unfold F7.f
     have ll:(l.take (atB a b l 0).1++l.drop ((atB a b l 0).1+1)).length=l.length-1:=by simp;omega
     rw [if_pos ⟨by omega,by rw [ll];omega,rfl,by rw [ll];omega⟩,Option.bind_some,Int.toNat_natCast]
     have lt:(l.take (atB a b l 0).1).length=(atB a b l 0).1:=by rw [List.length_take];omega
     rw [List.take_append_of_le_length (by omega),List.take_of_length_le (by omega),List.drop_append_of_le_length (by omega),List.drop_of_length_le (by omega),List.nil_append]
 | false=>
   rw [if_neg (show ¬ (false=true) by decide)]
   refine F3 fun k=>?_
   dsimp only
   rw [if_neg (show ¬ (false=true) by decide)]
   by_cases h:n=0
   · rw [if_pos h,if_pos h,List.append_nil,List.take_append_drop]
   · rw [if_neg h,if_neg h]
     unfold F7.f
     rw [if_pos ⟨by omega,by omega,rfl,by omega⟩,Option.bind_some,Int.toNat_natCast]
theorem C7m {l:List SB} (h:A4w l) (a b:Int) (i:Nat) (hi:i<l.length) (hp:i≠(atB a b l 0).1):¬ key (l.getD i z106) a b:=by
 intro g
 unfold key at g
 rcases Nat.lt_or_gt_of_ne hp with h1 | h1
 · have:=A5k a b l 0 i (by omega)
   rw [g.1,g.2] at this
   unfold Bef at this
   omega
 · have h2:=(A5j a b l 0 (by omega)).1
   rw [Nat.sub_zero] at h2
   have h3:=B2.ahead (A1i h) (i-(atB a b l 0).1) _ i rfl h1 hi
   rw [g.1,g.2] at h3
   exact h2 h3
def Gs (l:List SB) (a b n:Int) (i:Nat):List SB×Bool:=
 if i≤(atB a b l 0).1 then (l.take i,n == 0) else (l.take (atB a b l 0).1++ins a b n++(l.drop (nxt a b l)).take (i-nxt a b l),true)
theorem D2s {l:List SB} (h:A4w l) (a b n:Int) (hm:l.length≤1048576):Ev (fun k=>G2.f k l a b n) (putB l a b n):=by
 unfold G2.f
 have hr:=X6 a b l 0
 have hx:=B8h a b l
 refine X8 (fun k (s:List SB×Bool) i=>G2.l0 k l a b s.1 s.2 i a b n) l.length (fun _ _=>putB l a b n) (fun i s=>s=Gs l a b n i)
  (fun s hs=>I2 fun k=>?_) (fun i s hi hs=>.inr ⟨Gs l a b n (i+1),rfl,rfl,fun r hr2=>?_⟩) l.length 0 ([],n == 0) (by omega) (by omega) (by unfold Gs;rw [if_pos (Nat.zero_le _)];rfl)
 · subst hs
   unfold Gs putB
   by_cases h1:l.length≤(atB a b l 0).1
   · have e1:(atB a b l 0).1=l.length:=by omega
     rw [if_pos h1]
     unfold nxt
     rw [C8b a b l e1,if_neg (by decide),e1,List.take_length,List.drop_length,List.append_nil]
     dsimp only
     simp only [G2.l0]
     rw [if_neg (by omega)]
     unfold ins
     by_cases hn:n=0
     · rw [if_pos (by rw [hn];rfl),if_pos hn,List.append_nil]
     · rw [if_neg (by rw [beq_iff_eq];exact hn),if_neg hn,if_pos (by omega)]
   · rw [if_neg h1,List.take_of_length_le (l:=l.drop (nxt a b l)) (by rw [List.length_drop];exact Nat.le_refl _)]
     dsimp only
     simp only [G2.l0]
     rw [if_neg (by omega),if_pos trivial]
 · subst hs
   have hk:¬ i=(atB a b l 0).1→¬ ((l.getD i z106).f0=a∧(l.getD i z106).f1=b):=fun g=>C7m h a b i hi g
   -- the round's second half where nothing is put
   have second:∀ (out:List SB) (put:Bool) (r:List SB),out.length≤1048577→Ev (fun k=>G2.l0 k l a b (if (l.getD i z106).f0=a∧(l.getD i z106).f1=b then out else out++[l.getD i z106]) put ((i+1:Nat):Int) a b n) r→
    Ev (fun k=>G2.j1 k l a b out put (i:Int) false a b n (l.getD i z106).f0 (l.getD i z106).f1 (l.getD i z106).f2) r:=fun out put r ho hq=>by
    refine Ev.step (fun k=>?_) hq
    show G2.j1 (k+1) l a b out put (i:Int) false a b n _ _ _=_
    simp only [G2.j1]
    rw [if_neg (by decide),J5 hi (by omega)]
    by_cases g1:(l.getD i z106).f0=a
    · by_cases g2:(l.getD i z106).f1=b
      · rw [if_pos g1,if_pos g2,if_pos ⟨g1,g2⟩]
      · rw [if_pos g1,if_neg g2,if_pos (by omega),if_neg (fun g=>g2 g.2)]
    · rw [if_neg g1,if_pos (by omega),if_neg (fun g=>g1 g.1)]
   have first:∀ (out:List SB) (r:List SB),Ev (fun k=>G2.j1 k l a b out true (i:Int) false a b n (l.getD i z106).f0 (l.getD i z106).f1 (l.getD i z106).f2) r→Ev (fun k=>G2.l0 k l a b out true (i:Int) a b n) r:=fun out r hq=>by
    refine Ev.step (fun k=>?_) hq
    show G2.l0 (k+1) l a b out true (i:Int) a b n=_
    simp only [G2.l0,rdB]
    rw [if_pos (by omega),if_pos (by omega),if_pos trivial]
   have first2:∀ (out:List SB) (r:List SB),Ev (fun k=>G2.j1 k l a b out false (i:Int) (!decide (Bef (l.getD i z106).f0 (l.getD i z106).f1 a b)) a b n (l.getD i z106).f0 (l.getD i z106).f1 (l.getD i z106).f2) r→Ev (fun k=>G2.l0 k l a b out false (i:Int) a b n) r:=fun out r hq=>by
    refine Ev.step (fun k=>?_) hq
    show G2.l0 (k+1) l a b out false (i:Int) a b n=_
    simp only [G2.l0,rdB]
    rw [if_pos (by omega),if_pos (by omega),if_neg (by decide),A2a,Option.bind_some]
   have lt:(l.take i).length≤1048577:=by rw [List.length_take];omega
   by_cases h1:i<(atB a b l 0).1
   · have hb:=A5k a b l 0 i (by omega)
     have hn:=hk (by omega)
     unfold Gs at hr2 ⊢
     rw [if_pos (by omega)] at hr2
     rw [if_pos (by omega)]
     rw [A0u z106 l i hi] at hr2
     have key2:=second (l.take i) (n == 0) r lt (by rw [if_neg hn];exact hr2)
     dsimp only at hr2 ⊢
     cases e:(n == 0) with
     | true=>rw [e] at key2;exact first _ r key2
     | false=>rw [e] at key2;exact first2 _ r (by rw [decide_eq_true hb];exact key2)
   · by_cases h2:i=(atB a b l 0).1
     · have hs:=A5j a b l 0 (by omega)
       rw [Nat.sub_zero,← h2] at hs
       obtain ⟨hnb,hiff⟩:=hs
       unfold Gs at hr2 ⊢
       rw [if_neg (by omega)] at hr2
       rw [if_pos (by omega)]
       rw [← h2] at hr2
       have hrest:(if (l.getD i z106).f0=a∧(l.getD i z106).f1=b then l.take i++ins a b n else l.take i++ins a b n++[l.getD i z106])=l.take i++ins a b n++(l.drop (nxt a b l)).take (i+1-nxt a b l):=by
        unfold nxt
        by_cases e:(atB a b l 0).2=true
        · have hk1:(l.getD i z106).f0=a∧(l.getD i z106).f1=b:=hiff.1 e
          rw [if_pos hk1,if_pos e,← h2,Nat.sub_self,List.take_zero,List.append_nil]
        · have hk1:¬ ((l.getD i z106).f0=a∧(l.getD i z106).f1=b):=fun g=>e (hiff.2 g)
          rw [if_neg hk1,if_neg e,← h2,show i+1-i=0+1 by omega,L9 z106 l i hi,List.take_succ_cons,List.take_zero]
       rw [← hrest] at hr2
       dsimp only at hr2 ⊢
       by_cases hn:n=0
       · subst hn
         have hi0:ins a b 0=[]:=rfl
         rw [hi0,List.append_nil] at hr2
         exact first _ r (second (l.take i) true r lt hr2)
       · have e0:(n == 0)=false:=by rw [beq_eq_false_iff_ne];exact hn
         rw [e0]
         refine first2 _ r ?_
         rw [decide_eq_false hnb]
         have hi0:ins a b n=[⟨a,b,n⟩]:=by unfold ins;rw [if_neg hn]
         rw [hi0] at hr2
         refine Ev.step (fun k=>?_) hr2
         show G2.j1 (k+1) l a b (l.take i) false (i:Int) true a b n _ _ _=_
         simp only [G2.j1]
         rw [if_pos trivial,if_pos (by omega),Option.bind_some,J5 hi (by omega)]
         have ll:(l.take i++[(⟨a,b,n⟩:SB)]).length<5864062014805:=by rw [List.length_append,List.length_take];simp;omega
         by_cases g1:(l.getD i z106).f0=a
         · by_cases g2:(l.getD i z106).f1=b
           · rw [if_pos g1,if_pos g2,if_pos ⟨g1,g2⟩]
           · rw [if_pos g1,if_neg g2,if_pos ll,if_neg (fun g=>g2 g.2)]
         · rw [if_neg g1,if_pos ll,if_neg (fun g=>g1 g.1)]
     · have hn:=hk h2
       have hq:nxt a b l≤i:=by unfold nxt;split<;>omega
       unfold Gs at hr2 ⊢
       rw [if_neg (by omega)] at hr2
       rw [if_neg (by omega)]
       have hg:(l.drop (nxt a b l)).take (i+1-nxt a b l)=(l.drop (nxt a b l)).take (i-nxt a b l)++[l.getD i z106]:=by
        rw [show i+1-nxt a b l=(i-nxt a b l)+1 by omega,A0u z106 _ _ (by rw [List.length_drop];omega),B9y,show nxt a b l+(i-nxt a b l)=i by omega]
       rw [hg,← List.append_assoc] at hr2
       dsimp only at hr2 ⊢
       refine first _ r (second _ true r ?_ (by rw [if_neg hn];exact hr2))
       rw [List.length_append,List.length_append,List.length_take,List.length_take,List.length_drop]
       unfold ins
       split<;>simp<;>omega
end Go.Proofs.YtmfgajbkcnlkcaaGreat.B3
namespace Go.Proofs.YtmfgajbkcnlkcaaGreat.B4
open Go Go.RowKit Go.Proofs.YtmfgajbkcnlkcaaGreat.P Go.Proofs.YtmfgajbkcnlkcaaGreatW.PrintWords Go.Proofs.YtmfgajbkcnlkcaaGreatW.PrintLast Go.Proofs.YtmfgajbkcnlkcaaGreat.EV Go.Proofs.YtmfgajbkcnlkcaaGreat.I1 Go.Proofs.YtmfgajbkcnlkcaaGreat.N1 Go.Proofs.YtmfgajbkcnlkcaaGreat.B1 Go.Proofs.YtmfgajbkcnlkcaaGreat.B2 Go.Proofs.YtmfgajbkcnlkcaaGreat.B3
theorem A8w {l:List SB} {p:Nat} {x:SB} (h:x∈l.take p):∃ j,j<p∧j<l.length∧l.getD j z106=x:=by
 obtain ⟨j,hj,rfl⟩:=List.getElem_of_mem h
 rw [List.length_take] at hj
 refine ⟨j,by omega,by omega,?_⟩
 rw [Z9 _ l j (by omega),List.getElem_take]
theorem A5o {l:List SB} (a b:Int) {x:SB} (hx:x∈l.take (atB a b l 0).1):Bef x.f0 x.f1 a b:=by
 obtain ⟨j,hj,_,rfl⟩:=A8w hx
 exact A5k a b l 0 j (by omega)
theorem A7w {l:List SB} (h:A4w l) (a b:Int) {x:SB} (hx:x∈l.drop (nxt a b l)):Bef a b x.f0 x.f1:=by
 obtain ⟨j,hj,hjl,rfl⟩:=B5f hx
 have hr:=X6 a b l 0
 have hn:=B8h a b l
 have hp:(atB a b l 0).1<l.length:=by omega
 obtain ⟨h1,h2⟩:=A5j a b l 0 (by omega)
 rw [Nat.sub_zero] at h1 h2
 unfold nxt at hj
 by_cases e:(atB a b l 0).2=true
 · rw [if_pos e] at hj
   have hk:=h2.1 e
   have h3:=B2.ahead (A1i h) (j-(atB a b l 0).1) _ j rfl (by omega) hjl
   rw [hk.1,hk.2] at h3
   exact h3
 · rw [if_neg e] at hj
   have hk:¬ key (l.getD (atB a b l 0).1 z106) a b:=fun g=>e (h2.2 g)
   have h4:Bef a b (l.getD (atB a b l 0).1 z106).f0 (l.getD (atB a b l 0).1 z106).f1:=by
    unfold Bef key at *
    omega
   rcases Nat.eq_or_lt_of_le hj with h5 | h5
   · rw [← h5];exact h4
   · have h3:=B2.ahead (A1i h) (j-(atB a b l 0).1) _ j rfl h5 hjl
     unfold Bef at *
     omega
theorem C0q {a b c d e f:Int} (h:Bef a b c d) (k:Bef c d e f):Bef a b e f:=by
 unfold Bef at *
 omega
theorem B0h {l:List SB} (h:A4w l) {a b n:Int} (ha:No a) (hb:No b) (hn:Amt n):A4w (putB l a b n):=by
 have hins:∀ x∈ins a b n,x=⟨a,b,n⟩∧n≠0:=by
  intro x hx
  unfold ins at hx
  split at hx
  · cases hx
  · rename_i h0
    exact ⟨by simpa using hx,h0⟩
 refine ⟨fun x hx=>?_,?_⟩
 · unfold putB at hx
   rw [List.mem_append,List.mem_append] at hx
   rcases hx with (hx | hx) | hx
   · exact h.1 x (List.mem_of_mem_take hx)
   · obtain ⟨rfl,h0⟩:=hins x hx
     exact ⟨ha,hb,hn,h0⟩
   · exact h.1 x (List.mem_of_mem_drop hx)
 · unfold putB
   have p1:(l.take (atB a b l 0).1).Pairwise Lt:=h.2.sublist (List.take_sublist _ _)
   have p2:(l.drop (nxt a b l)).Pairwise Lt:=h.2.sublist (List.drop_sublist _ _)
   have p3:(ins a b n).Pairwise Lt:=by
    unfold ins
    split
    · exact List.Pairwise.nil
    · exact List.pairwise_singleton _ _
   rw [List.pairwise_append,List.pairwise_append]
   refine ⟨⟨p1,p3,fun x hx y hy=>?_⟩,p2,fun x hx y hy=>?_⟩
   · obtain ⟨rfl,_⟩:=hins y hy
     exact A5o a b hx
   · rcases List.mem_append.1 hx with hx | hx
     · exact C0q (A5o a b hx) (A7w h a b hy)
     · obtain ⟨rfl,_⟩:=hins x hx
       exact A7w h a b hy
theorem B8f:∀ {l:List SB},l.Pairwise Lt→∀ x∈l,ofB x.f0 x.f1 l=x.f2
 | [],_,x,hx=>by cases hx
 | y::l,h,x,hx=>by
   rw [List.pairwise_cons] at h
   unfold ofB
   rcases List.mem_cons.1 hx with rfl | hx
   · rw [if_pos ⟨rfl,rfl⟩]
   · have:=h.1 x hx
     rw [if_neg (by unfold Lt Bef at this;omega)]
     exact B8f h.2 x hx
end Go.Proofs.YtmfgajbkcnlkcaaGreat.B4
namespace Go.Proofs.YtmfgajbkcnlkcaaGreat.G1
open Go Go.RowKit Go.Proofs.YtmfgajbkcnlkcaaGreat.P Go.Proofs.YtmfgajbkcnlkcaaGreatW.PrintWords Go.Proofs.YtmfgajbkcnlkcaaGreatW.PrintLast Go.Proofs.YtmfgajbkcnlkcaaGreat.EV Go.Proofs.YtmfgajbkcnlkcaaGreat.I1 Go.Proofs.YtmfgajbkcnlkcaaGreat.N1
abbrev SL:=S93
theorem rdL (l:List SL) (i:Nat):K2 l (i:Int)=l.getD i z93:=by unfold K2;rw [Int.toNat_natCast]
def A7b (x:SL):Prop:=No x.f0∧No x.f1∧Amt x.f2
instance (x:SL):Decidable (A7b x):=by unfold A7b;exact inferInstance
def A1q (l:List SL):Prop:=l.length≤160∧∀ x∈l,A7b x
noncomputable def A2g (l:List SL):Bool:=@decide (A1q l) (Classical.propDecidable _)
theorem rightL_iff (l:List SL):A2g l=true↔A1q l:=by unfold A2g;exact @decide_eq_true_iff _ (Classical.propDecidable _)
theorem A5w {l:List SL} (h:¬ A1q l):A2g l=false:=by rw [Bool.eq_false_iff,Ne,rightL_iff];exact h
theorem A1q.at {l:List SL} (h:A1q l) (i:Nat) (hi:i<l.length):A7b (l.getD i z93):=by
 have:l.getD i z93=l[i]:=by rw [List.getD_eq_getElem?_getD,List.getElem?_eq_getElem hi];rfl
 rw [this]
 exact h.2 _ (List.getElem_mem hi)
theorem A3f (l:List SL):Ev (fun k=>H2.f k l) (A2g l):=by
 unfold H2.f
 by_cases hn:(l.length:Int)>160
 · rw [A5w fun h=>by have:=h.1;omega]
   exact F3 fun k=>by rw [if_pos hn]
 · obtain ⟨r,hr,hiff⟩:=A0k (fun k i=>H2.l0 k l i) l.length (fun j=>A7b (l.getD j z93)) true
    (I2 fun k=>by simp only [H2.l0];rw [if_neg (by omega)])
    (fun i hi=>by
      have e:∀ k,H2.l0 (k+1) l (i:Int)=if No (l.getD i z93).f0 then (if No (l.getD i z93).f1 then (if Amt (l.getD i z93).f2 then H2.l0 k l ((i+1:Nat):Int) else some false) else some false) else some false:=by
       intro k
       simp only [H2.l0]
       rw [if_pos (by omega),if_pos (by omega),J5 hi (by omega)]
       simp only [no_s,B1l,Option.bind_some,decide_eq_true_iff,rdL]
      by_cases hg:A7b (l.getD i z93)
      · refine .inl ⟨hg,fun k=>?_⟩
        show H2.l0 (k+1) l (i:Int)=_
        rw [e k,if_pos hg.1,if_pos hg.2.1,if_pos hg.2.2]
      · refine .inr ⟨hg,fun k=>?_⟩
        show H2.l0 (k+1) l (i:Int)=_
        rw [e k]
        unfold A7b at hg
        split
        · rename_i h1
          split
          · rename_i h2
            split
            · rename_i h3
              exact absurd ⟨h1,h2,h3⟩ hg
            · rfl
          · rfl
        · rfl) l.length 0 (by omega) (by omega)
   have hq:r=A2g l:=by
    rw [Bool.eq_iff_iff,hiff,rightL_iff]
    refine ⟨fun h=>⟨by omega,fun x hx=>?_⟩,fun h=>⟨fun j _ hj=>h.at j hj,rfl⟩⟩
    obtain ⟨j,hj,rfl⟩:=List.getElem_of_mem hx
    have:=h.1 j (Nat.zero_le _) hj
    rw [List.getD_eq_getElem?_getD,List.getElem?_eq_getElem hj] at this
    exact this
   subst hq
   exact Ev.congr (fun k=>by rw [if_neg hn];rfl) hr
theorem B3r (l:List SL):I0.f l=some (A2g l):=by
 unfold I0.f
 congr 1
 rw [Bool.eq_iff_iff,rightL_iff,Bool.and_eq_true,decide_eq_true_iff,Bool.not_eq_true',List.any_eq_false]
 unfold A1q
 have e:∀ x:SL,(¬ I0.bad x=true)↔A7b x:=fun x=>by
  unfold I0.bad A7b No Amt
  rw [Bool.not_eq_true',Bool.not_eq_false,decide_eq_true_iff]
 constructor
 · rintro ⟨h1,h2⟩
   exact ⟨by omega,fun x hx=>(e x).1 (h2 x hx)⟩
 · rintro ⟨h1,h2⟩
   exact ⟨by omega,fun x hx=>(e x).2 (h2 x hx)⟩
def sumL (a:Int):List SL→Int
 | []=>0
 | x::l=>(if x.f1=a then x.f2 else 0)+sumL a l
theorem A5p (a:Int) (l:List SL) (i:Nat) (hi:i<l.length):sumL a (l.drop i)=(if (l.getD i z93).f1=a then (l.getD i z93).f2 else 0)+sumL a (l.drop (i+1)):=by
 rw [L9 z93 l i hi];rfl
theorem A7g {l:List SL} (h:A1q l) (a:Int):∀ (d i:Nat),l.length-i=d→i≤l.length→-(1000000000000000*(l.length-i:Int))≤sumL a (l.drop i)∧sumL a (l.drop i)≤1000000000000000*(l.length-i:Int):=by
 intro d
 induction d with
 | zero=>
   intro i hd hi
   obtain rfl:i=l.length:=by omega
   rw [List.drop_length]
   unfold sumL
   omega
 | succ d ih=>
   intro i hd hi
   rw [A5p a l i (by omega)]
   have:=ih (i+1) (by omega) (by omega)
   have g:Amt _:=(h.at i (by omega)).2.2
   unfold Amt at g
   split<;>omega
def D5g (l:List SL):Prop:=∀ j,j<l.length→sumL (l.getD j z93).f1 l=0
def OkL (l:List SL):Prop:=A1q l∧D5g l
noncomputable def okL (l:List SL):Bool:=@decide (OkL l) (Classical.propDecidable _)
theorem okL_iff (l:List SL):okL l=true↔OkL l:=by unfold okL;exact @decide_eq_true_iff _ (Classical.propDecidable _)
theorem C5h {l:List SL} (h:¬ OkL l):okL l=false:=by rw [Bool.eq_false_iff,Ne,okL_iff];exact h
theorem C4h (l:List SL):Ev (fun k=>H5.f k l) (okL l):=by
 unfold H5.f
 refine B8 (A3f l) ?_
 by_cases h:A1q l
 · have h1:=h.1
   have hb:=fun a i hi=>A7g h a (l.length-i) i rfl hi
   obtain ⟨r,hr,hiff⟩:=Y5 (fun k i=>H5.l0 k l i) l.length (fun j=>sumL (l.getD j z93).f1 l=0) true
    (I2 fun k=>by simp only [H5.l0];rw [if_neg (by omega)])
    (fun i hi=>by
      have key:∀ q,Ev (fun k=>if sumL (l.getD i z93).f1 l=0 then H5.l0 k l ((i+1:Nat):Int) else some false) q→Ev (fun k=>H5.l0 k l (i:Int)) q:=fun q hq=>by
       refine Ev.step (f:=fun k=>H5.l1 k l (i:Int) 0 0) (fun k=>by simp only [H5.l0];rw [if_pos (by omega)]) ?_
       refine (X8 (fun k s j=>H5.l1 k l (i:Int) s j) l.length (fun _ _=>q) (fun j s=>s+sumL (l.getD i z93).f1 (l.drop j)=sumL (l.getD i z93).f1 l)
        (fun s hs=>by
          rw [List.drop_length] at hs
          have hs2:s=sumL (l.getD i z93).f1 l:=by rw [← hs];show s=s+0;omega
          refine Ev.step (fun k=>?_) hq
          show H5.l1 (k+1) l (i:Int) s (l.length:Int)=_
          simp only [H5.l1]
          rw [if_neg (by omega),J5 hi (by omega),hs2])
        (fun j s hj hs=>by
          have e:=A5p (l.getD i z93).f1 l j hj
          have b0:=hb (l.getD i z93).f1 0 (by omega)
          have b1:=hb (l.getD i z93).f1 (j+1) (by omega)
          rw [List.drop_zero] at b0
          refine .inr ⟨s+(if (l.getD j z93).f1=(l.getD i z93).f1 then (l.getD j z93).f2 else 0),by omega,rfl,fun r hr=>Ev.step (fun k=>?_) hr⟩
          show H5.l1 (k+1) l (i:Int) s (j:Int)=_
          simp only [H5.l1,rdL]
          rw [if_pos (by omega),if_pos (by omega),if_pos (by omega),if_pos (by omega),J5 hj (by omega)]
          by_cases h2:(l.getD j z93).f1=(l.getD i z93).f1
          · rw [if_pos h2] at e
            rw [if_pos h2,if_pos h2,S8 _ (by omega) (by omega)]
          · rw [if_neg h2,if_neg h2,Int.add_zero]) l.length 0 0 (by omega) (by omega) (by rw [List.drop_zero];omega):Ev (fun k=>H5.l1 k l (i:Int) 0 ((0:Nat):Int)) q)
      by_cases hg:sumL (l.getD i z93).f1 l=0
      · exact .inl ⟨hg,fun r hr=>key r (Ev.congr (fun k=>by rw [if_pos hg]) hr)⟩
      · exact .inr ⟨hg,key false (F3 fun k=>by rw [if_neg hg])⟩) l.length 0 (by omega) (by omega)
   have hq:r=okL l:=by
    rw [Bool.eq_iff_iff,hiff,okL_iff]
    exact ⟨fun g=>⟨h,fun j hj=>g.1 j (Nat.zero_le _) hj⟩,fun g=>⟨fun j _ hj=>g.2 j hj,rfl⟩⟩
   subst hq
   exact Ev.congr (fun k=>by rw [if_pos ((rightL_iff l).2 h)];rfl) hr
 · rw [C5h fun g=>h g.1]
   exact F3 fun k=>by rw [if_neg (by rw [A5w h];decide)]
theorem C4i (l:List SL):Ev (fun k=>H6.f k l) (okL l):=by
 unfold H6.f
 by_cases h:A1q l
 · have h1:=h.1
   have hb:=fun a i hi=>A7g h a (l.length-i) i rfl hi
   obtain ⟨r,hr,hiff⟩:=Y5 (fun k i=>H6.l0 k l l (l.length:Int) i) l.length (fun j=>sumL (l.getD j z93).f1 l=0) true
    (I2 fun k=>by simp only [H6.l0];rw [if_neg (by omega)])
    (fun i hi=>by
      have key:∀ q,Ev (fun k=>if sumL (l.getD i z93).f1 l=0 then H6.l0 k l l (l.length:Int) ((i+1:Nat):Int) else some false) q→Ev (fun k=>H6.l0 k l l (l.length:Int) (i:Int)) q:=fun q hq=>by
       refine Ev.step (f:=fun k=>H6.l1 k l 0 l (l.length:Int) (i:Int) l (l.length:Int) 0 (l.getD i z93).f0 (l.getD i z93).f1 (l.getD i z93).f2) (fun k=>by simp only [H6.l0,rdL];rw [if_pos (by omega),if_pos (by omega),if_pos (by omega)]) ?_
       refine (X8 (fun k s j=>H6.l1 k l s l (l.length:Int) (i:Int) l (l.length:Int) j (l.getD i z93).f0 (l.getD i z93).f1 (l.getD i z93).f2) l.length (fun _ _=>q) (fun j s=>s+sumL (l.getD i z93).f1 (l.drop j)=sumL (l.getD i z93).f1 l)
        (fun s hs=>by
          rw [List.drop_length] at hs
          have hs2:s=sumL (l.getD i z93).f1 l:=by rw [← hs];show s=s+0;omega
          refine Ev.step (fun k=>?_) hq
          show H6.l1 (k+1) l s l (l.length:Int) (i:Int) l (l.length:Int) (l.length:Int) _ _ _=_
          simp only [H6.l1]
          rw [if_neg (by omega),J5 hi (by omega),hs2])
        (fun j s hj hs=>by
          have e:=A5p (l.getD i z93).f1 l j hj
          have b0:=hb (l.getD i z93).f1 0 (by omega)
          have b1:=hb (l.getD i z93).f1 (j+1) (by omega)
          rw [List.drop_zero] at b0
          refine .inr ⟨s+(if (l.getD j z93).f1=(l.getD i z93).f1 then (l.getD j z93).f2 else 0),by omega,rfl,fun r hr=>Ev.step (fun k=>?_) hr⟩
          show H6.l1 (k+1) l s l (l.length:Int) (i:Int) l (l.length:Int) (j:Int) _ _ _=_
          simp only [H6.l1,rdL]
          rw [if_pos (by omega),if_pos (by omega),if_pos (by omega),J5 hj (by omega)]
          by_cases h2:(l.getD j z93).f1=(l.getD i z93).f1
          · rw [if_pos h2] at e
            rw [if_pos h2,if_pos h2,S8 _ (by omega) (by omega)]
          · rw [if_neg h2,if_neg h2,Int.add_zero]) l.length 0 0 (by omega) (by omega) (by rw [List.drop_zero];omega):Ev (fun k=>H6.l1 k l 0 l (l.length:Int) (i:Int) l (l.length:Int) ((0:Nat):Int) (l.getD i z93).f0 (l.getD i z93).f1 (l.getD i z93).f2) q)
      by_cases hg:sumL (l.getD i z93).f1 l=0
      · exact .inl ⟨hg,fun r hr=>key r (Ev.congr (fun k=>by rw [if_pos hg]) hr)⟩
      · exact .inr ⟨hg,key false (F3 fun k=>by rw [if_neg hg])⟩) l.length 0 (by omega) (by omega)
   have hq:r=okL l:=by
    rw [Bool.eq_iff_iff,hiff,okL_iff]
    exact ⟨fun g=>⟨h,fun j hj=>g.1 j (Nat.zero_le _) hj⟩,fun g=>⟨fun j _ hj=>g.2 j hj,rfl⟩⟩
   subst hq
   exact Ev.congr (fun k=>by rw [B3r,Option.bind_some,if_pos ((rightL_iff l).2 h)];rfl) hr
 · rw [C5h fun g=>h g.1]
   exact F3 fun k=>by rw [B3r,Option.bind_some,if_neg (by rw [A5w h];decide)]
end Go.Proofs.YtmfgajbkcnlkcaaGreat.G1
namespace Go.Proofs.YtmfgajbkcnlkcaaGreat.B5
open Go Go.RowKit Go.Proofs.YtmfgajbkcnlkcaaGreat.P Go.Proofs.YtmfgajbkcnlkcaaGreatW.PrintWords Go.Proofs.YtmfgajbkcnlkcaaGreatW.PrintLast Go.Proofs.YtmfgajbkcnlkcaaGreat.EV Go.Proofs.YtmfgajbkcnlkcaaGreat.I1 Go.Proofs.YtmfgajbkcnlkcaaGreat.N1 Go.Proofs.YtmfgajbkcnlkcaaGreat.B1 Go.Proofs.YtmfgajbkcnlkcaaGreat.B2 Go.Proofs.YtmfgajbkcnlkcaaGreat.B3 Go.Proofs.YtmfgajbkcnlkcaaGreat.B4 Go.Proofs.YtmfgajbkcnlkcaaGreat.G1
theorem rdi (l:List Int) (i:Nat):rd l (i:Int)=l.getD i 0:=by unfold rd;rw [Int.toNat_natCast]
def hasI (l:List Int) (x:Int):Bool:=l.any (fun y=>y == x)
theorem A4b (l:List Int) (x:Int) (i:Nat) (hi:i<l.length):hasI (l.drop i) x=((l.getD i 0 == x)||hasI (l.drop (i+1)) x):=by
 rw [L9 0 l i hi];rfl
theorem C9w (l:List Int) (x:Int) (hm:l.length≤9223372036854775807):Ev (fun k=>P5.f k l x) (hasI l x):=by
 unfold P5.f
 have h:=S1 (fun k (_:Unit) i=>P5.l0 k l x i) l.length (fun i _=>hasI (l.drop i) x) (fun _ _=>True)
  (fun _ _=>I2 fun k=>by
    simp only [P5.l0]
    rw [if_neg (by omega),List.drop_length]
    rfl)
  (fun i _ hi _=>by
    by_cases h:l.getD i 0=x
    · refine .inl (I2 fun k=>?_)
      simp only [P5.l0,rdi]
      rw [if_pos (by omega),if_pos (by omega),if_pos h,A4b l x i hi,beq_iff_eq.2 h]
      rfl
    · refine .inr ⟨(),trivial,by show hasI (l.drop (i+1)) x=hasI (l.drop i) x;rw [A4b l x i hi,beq_eq_false_iff_ne.2 h];rfl,fun k=>?_⟩
      show P5.l0 (k+1) l x (i:Int)=_
      simp only [P5.l0,rdi]
      rw [if_pos (by omega),if_pos (by omega),if_neg h,J5 hi (by omega)]) l.length 0 () (by omega) (by omega) trivial
 rw [List.drop_zero] at h
 exact h
theorem C7t (l:List Int) (x:Int) (hm:l.length≤9223372036854775807):Ev (fun k=>O1.f k l x) (hasI l x):=by
 unfold O1.f G9.f
 have h:∃ r:Int,Ev (fun k=>G9.l0 k l x (l.length:Int) 0) r∧decide (r≥0)=hasI l x:=by
  have key:∀ (d i:Nat),l.length-i=d→i≤l.length→∃ r:Int,Ev (fun k=>G9.l0 k l x (l.length:Int) (i:Int)) r∧decide (r≥0)=hasI (l.drop i) x:=by
   intro d
   induction d with
   | zero=>
     intro i hd hi
     obtain rfl:i=l.length:=by omega
     refine ⟨-1,I2 fun k=>?_,by rw [List.drop_length];rfl⟩
     simp only [G9.l0]
     rw [if_neg (by omega)]
   | succ d ih=>
     intro i hd hi
     have hi2:i<l.length:=by omega
     by_cases h:l.getD i 0=x
     · refine ⟨(i:Int),I2 fun k=>?_,?_⟩
       · simp only [G9.l0,rdi]
         rw [if_pos (by omega),if_pos (by omega),if_pos (by omega),if_pos h.symm]
       · rw [A4b l x i hi2,beq_iff_eq.2 h,decide_eq_true (by omega)]
         rfl
     · obtain ⟨r,hr,e⟩:=ih (i+1) (by omega) (by omega)
       refine ⟨r,Ev.step (fun k=>?_) hr,?_⟩
       · simp only [G9.l0,rdi]
         rw [if_pos (by omega),if_pos (by omega),if_pos (by omega),if_neg (fun g=>h g.symm),J5 hi2 (by omega)]
       · rw [e,A4b l x i hi2,beq_eq_false_iff_ne.2 h]
         rfl
  have:=key l.length 0 (by omega) (by omega)
  rw [List.drop_zero] at this
  exact this
 obtain ⟨r,hr,e⟩:=h
 refine B8 hr ?_
 rw [e]
 exact Ev.now _
theorem C4b {l:List SB} (h:A4w l) (a b:Int) (hm:l.length≤9223372036854775807):Ev (fun k=>R7.f k l a b) (ofB a b l):=by
 unfold R7.f
 refine B8 (at_i l a b hm) ?_
 have g:=D2a (A1i h) a b l.length 0 (by omega) (by omega)
 have r:=X6 a b l 0
 rw [List.drop_zero] at g
 rw [← g]
 by_cases h2:(atB a b l 0).2=true
 · refine F3 fun k=>?_
   have:=r.2.2 h2
   rw [if_pos h2,if_pos h2,if_pos (by show (0:Int)≤((atB a b l 0).1:Int);omega),if_pos (by show ((atB a b l 0).1:Int)<_;omega),rdB]
 · refine F3 fun k=>?_
   rw [if_neg h2,if_neg h2]
theorem B8g {l:List SB} (h:A4w l) (a b:Int):Amt (ofB a b l):=by
 by_cases he:∃ x∈l,x.f0=a∧x.f1=b
 · obtain ⟨x,hx,rfl,rfl⟩:=he
   rw [B8f h.2 x hx]
   exact (h.1 x hx).2.2.1
 · rw [A8s a b l fun x hx g=>he ⟨x,hx,g⟩]
   unfold Amt
   omega
def newB (l:List SB) (x:SL):Int:=ofB x.f0 x.f1 l+x.f2
def goP:List SB→List SL→Option (List SB)
 | l,[]=>some l
 | l,x::r=>if Amt (newB l x) then goP (putB l x.f0 x.f1 (newB l x)) r else none
def V4 (o:List SB) (short:List Int) (x:SL):Bool:=!hasI short x.f0&&decide (ofB x.f0 x.f1 o<0)
def endB (l o:List SB) (legs:List SL) (short:List Int):List SB×Int:=if legs.any (V4 o short)=true then (l,3) else (if o.length≤160 then (o,0) else (l,5))
def mainB (l:List SB) (legs:List SL) (short:List Int):List SB×Int:=match goP l legs with
 | none=>(l,4)
 | some o=>endB l o legs short
noncomputable def postB (l:List SB) (legs:List SL) (short:List Int):List SB×Int:=
 if okB l=true∧A2g legs=true∧short.length≤20 then (if okL legs=true then mainB l legs short else (l,2)) else ([],1)
theorem C5o {legs:List SL} (h:A1q legs) (i:Nat) (hi:i<legs.length):A7b (legs.getD i z93):=h.at i hi
theorem D5b {l o:List SB} {legs:List SL} {short:List Int} (ho:A4w o) (hol:o.length≤1048576) (hl:legs.length≤160) (hs:short.length≤20):Ev (fun k=>D9.l1 k short l o legs (legs.length:Int) 0) (endB l o legs short):=by
 have h:=X8 (fun k (_:Unit) i=>D9.l1 k short l o legs (legs.length:Int) i) legs.length (fun i _=>if (legs.drop i).any (V4 o short)=true then (l,3) else (if o.length≤160 then (o,0) else (l,5))) (fun _ _=>True)
  (fun _ _=>I2 fun k=>by
    simp only [D9.l1]
    rw [if_neg (by omega),List.drop_length]
    show _=some (if o.length≤160 then (o,0) else (l,5))
    by_cases h:o.length≤160
    · rw [if_neg (by omega),if_pos h]
    · rw [if_pos (by omega),if_neg h])
  (fun i _ hi _=>by
    have e:∀ k,D9.l1 (k+1) short l o legs (legs.length:Int) (i:Int)=(O1.f k short (legs.getD i z93).f0).bind fun t=>if t=true then D9.l1 k short l o legs (legs.length:Int) ((i+1:Nat):Int) else (R7.f k o (legs.getD i z93).f0 (legs.getD i z93).f1).bind fun t2=>if t2<0 then some (l,3) else D9.l1 k short l o legs (legs.length:Int) ((i+1:Nat):Int):=by
     intro k
     simp only [D9.l1,rdL]
     rw [if_pos (by omega),if_pos (by omega),if_pos (by omega),J5 hi (by omega)]
    have hd:(legs.drop i).any (V4 o short)=(V4 o short (legs.getD i z93)||(legs.drop (i+1)).any (V4 o short)):=by rw [L9 z93 legs i hi];rfl
    cases hc:hasI short (legs.getD i z93).f0 with
    | true=>
      have hsb:V4 o short (legs.getD i z93)=false:=by unfold V4;rw [hc];rfl
      refine .inr ⟨(),trivial,by rw [hd,hsb,Bool.false_or],fun r hr=>?_⟩
      refine Ev.step e (B8 (C7t short _ (by omega)) ?_)
      rw [hc]
      exact Ev.congr (fun k=>if_pos rfl) hr
    | false=>
      by_cases h0:ofB (legs.getD i z93).f0 (legs.getD i z93).f1 o<0
      · have hsb:V4 o short (legs.getD i z93)=true:=by unfold V4;rw [hc,decide_eq_true h0];rfl
        refine .inl ?_
        rw [hd,hsb,Bool.true_or,if_pos rfl]
        refine Ev.step e (B8 (C7t short _ (by omega)) ?_)
        rw [hc]
        refine Ev.congr (fun k=>if_neg (by decide)) ?_
        exact B8 (C4b ho _ _ (by omega)) (F3 fun k=>if_pos h0)
      · have hsb:V4 o short (legs.getD i z93)=false:=by unfold V4;rw [hc,decide_eq_false h0];rfl
        refine .inr ⟨(),trivial,by rw [hd,hsb,Bool.false_or],fun r hr=>?_⟩
        refine Ev.step e (B8 (C7t short _ (by omega)) ?_)
        rw [hc]
        refine Ev.congr (fun k=>if_neg (by decide)) ?_
        exact B8 (C4b ho _ _ (by omega)) (Ev.congr (fun k=>if_neg h0) hr)) legs.length 0 () (by omega) (by omega) trivial
 rw [List.drop_zero] at h
 exact h
theorem A9j (x:List SB) (hx:x.length≤1048577):([]:List SB).length+x.length<5864062014805:=by simp;omega
theorem B1c {l o:List SB} {legs:List SL} {short:List Int} (hl1:l.length≤1048576) (hol:o.length≤1048576) (hl:legs.length≤160) (hs:short.length≤20):Ev (fun k=>D7.l1 k l legs short o 0) (endB l o legs short):=by
 have h:=X8 (fun k (_:Unit) i=>D7.l1 k l legs short o i) legs.length (fun i _=>if (legs.drop i).any (V4 o short)=true then (l,3) else (if o.length≤160 then (o,0) else (l,5))) (fun _ _=>True)
  (fun _ _=>I2 fun k=>by
    simp only [D7.l1,Option.bind_some]
    rw [if_neg (by omega),List.drop_length]
    show _=some (if o.length≤160 then (o,0) else (l,5))
    by_cases h:o.length≤160
    · rw [if_neg (by omega),if_pos h]
    · rw [if_pos (by omega),if_pos (A9j l (by omega)),List.nil_append,if_neg h])
  (fun i _ hi _=>by
    have e:∀ k,D7.l1 (k+1) l legs short o (i:Int)=(N8.f k o (legs.getD i z93).f0 (legs.getD i z93).f1).bind fun t2=>if t2<0 then (P5.f k short (legs.getD i z93).f0).bind (fun t=>if t=true then D7.l1 k l legs short o ((i+1:Nat):Int) else some (l,3)) else D7.l1 k l legs short o ((i+1:Nat):Int):=by
     intro k
     simp only [D7.l1,rdL,Option.bind_some]
     rw [if_pos (by omega),if_pos (by omega),J5 hi (by omega)]
     simp only [if_pos (A9j l (by omega)),List.nil_append]
    have hd:(legs.drop i).any (V4 o short)=(V4 o short (legs.getD i z93)||(legs.drop (i+1)).any (V4 o short)):=by rw [L9 z93 legs i hi];rfl
    by_cases h0:ofB (legs.getD i z93).f0 (legs.getD i z93).f1 o<0
    · cases hc:hasI short (legs.getD i z93).f0 with
      | true=>
        have hsb:V4 o short (legs.getD i z93)=false:=by unfold V4;rw [hc];rfl
        refine .inr ⟨(),trivial,by rw [hd,hsb,Bool.false_or],fun r hr=>?_⟩
        refine Ev.step e (B8 (of_s o _ _ (by omega)) (Ev.congr (fun k=>if_pos h0) (B8 (C9w short _ (by omega)) ?_)))
        rw [hc]
        exact Ev.congr (fun k=>if_pos rfl) hr
      | false=>
        have hsb:V4 o short (legs.getD i z93)=true:=by unfold V4;rw [hc,decide_eq_true h0];rfl
        refine .inl ?_
        rw [hd,hsb,Bool.true_or,if_pos rfl]
        refine Ev.step e (B8 (of_s o _ _ (by omega)) (Ev.congr (fun k=>if_pos h0) (B8 (C9w short _ (by omega)) ?_)))
        rw [hc]
        exact F3 fun k=>rfl
    · have hsb:V4 o short (legs.getD i z93)=false:=by unfold V4;rw [decide_eq_false h0,Bool.and_false]
      refine .inr ⟨(),trivial,by rw [hd,hsb,Bool.false_or],fun r hr=>?_⟩
      exact Ev.step e (B8 (of_s o _ _ (by omega)) (Ev.congr (fun k=>if_neg h0) hr))) legs.length 0 () (by omega) (by omega) trivial
 rw [List.drop_zero] at h
 exact h
theorem C0w (a b:Int) (ha:Amt a) (hb:Amt b):Y8.f a b=some (told (a+b) true):=by
 unfold Y8.f
 have e:wrap64 (a+b)=a+b:=by unfold Amt at ha hb;exact S8 _ (by omega) (by omega)
 rw [B1l,Option.bind_some,if_pos (decide_eq_true ha),B1l,Option.bind_some,decide_eq_true hb,e,C4z]
 rfl
theorem go_i {l:List SB} {legs:List SL} {short:List Int} (h:OkB l) (hr:A1q legs) (hs:short.length≤20):Ev (fun k=>D9.l0 k legs short l l legs (legs.length:Int) 0) (mainB l legs short):=by
 have hl:=hr.1
 have hl1:=h.1
 have hsl:=((B5a l).1 h).2
 refine X8 (fun k (s:List SB) i=>D9.l0 k legs short l s legs (legs.length:Int) i) legs.length (fun _ _=>mainB l legs short) (fun i s=>goP s (legs.drop i)=goP l legs∧A4w s∧s.length≤160+i)
  (fun s hi=>?_) (fun i s hi hv=>?_) legs.length 0 l (by omega) (by omega) ⟨by rw [List.drop_zero],hsl,by omega⟩
 · obtain ⟨h1,h2,h3⟩:=hi
   rw [List.drop_length] at h1
   have hm:mainB l legs short=endB l s legs short:=by unfold mainB;rw [← h1];rfl
   rw [hm]
   refine Ev.step (fun k=>?_) (D5b h2 (by omega) hl hs)
   simp only [D9.l0]
   rw [if_neg (by omega)]
 · obtain ⟨h1,h2,h3⟩:=hv
   have gx:=C5o hr i hi
   have ga:=B8g h2 (legs.getD i z93).f0 (legs.getD i z93).f1
   have gb:=gx.2.2
   have hw:wrap64 (ofB (legs.getD i z93).f0 (legs.getD i z93).f1 s+(legs.getD i z93).f2)=newB s (legs.getD i z93):=by
    unfold newB
    unfold Amt at ga gb
    exact S8 _ (by omega) (by omega)
   rw [L9 z93 legs i hi] at h1
   have e:∀ k,D9.l0 (k+1) legs short l s legs (legs.length:Int) (i:Int)=(R7.f k s (legs.getD i z93).f0 (legs.getD i z93).f1).bind fun t=>(L7.f (wrap64 (t+(legs.getD i z93).f2))).bind fun t2=>if t2=true then (T7.f k s (legs.getD i z93).f0 (legs.getD i z93).f1 (wrap64 (t+(legs.getD i z93).f2))).bind (fun t3=>D9.l0 k legs short l t3 legs (legs.length:Int) ((i+1:Nat):Int)) else some (l,4):=by
    intro k
    simp only [D9.l0,rdL]
    rw [if_pos (by omega),if_pos (by omega),if_pos (by omega),J5 hi (by omega)]
   by_cases hA:Amt (newB s (legs.getD i z93))
   · refine .inr ⟨putB s (legs.getD i z93).f0 (legs.getD i z93).f1 (newB s (legs.getD i z93)),⟨?_,B0h h2 gx.1 gx.2.1 hA,?_⟩,rfl,fun r hq=>?_⟩
     · rw [← h1]
       conv=>rhs;unfold goP
       rw [if_pos hA]
     · have:=B4u s (legs.getD i z93).f0 (legs.getD i z93).f1 (newB s (legs.getD i z93))
       omega
     · refine Ev.step e (B8 (C4b h2 _ _ (by omega)) ?_)
       rw [hw]
       refine Ev.congr (fun k=>by rw [C8c,Option.bind_some,if_pos (decide_eq_true hA)]) ?_
       exact B8 (D2t s _ _ _ (by omega)) hq
   · refine .inl ?_
     have hm:mainB l legs short=(l,4):=by
      unfold mainB
      rw [← h1]
      unfold goP
      rw [if_neg hA]
     rw [hm]
     refine Ev.step e (B8 (C4b h2 _ _ (by omega)) ?_)
     rw [hw]
     exact F3 fun k=>by rw [C8c,Option.bind_some,if_neg (by rw [decide_eq_false hA];decide)]
theorem go_s {l:List SB} {legs:List SL} {short:List Int} (h:OkB l) (hr:A1q legs) (hs:short.length≤20):Ev (fun k=>D7.l0 k l legs short l 0) (mainB l legs short):=by
 have hl:=hr.1
 have hl1:=h.1
 have hsl:=((B5a l).1 h).2
 refine X8 (fun k (s:List SB) i=>D7.l0 k l legs short s i) legs.length (fun _ _=>mainB l legs short) (fun i s=>goP s (legs.drop i)=goP l legs∧A4w s∧s.length≤160+i)
  (fun s hi=>?_) (fun i s hi hv=>?_) legs.length 0 l (by omega) (by omega) ⟨by rw [List.drop_zero],hsl,by omega⟩
 · obtain ⟨h1,h2,h3⟩:=hi
   rw [List.drop_length] at h1
   have hm:mainB l legs short=endB l s legs short:=by unfold mainB;rw [← h1];rfl
   rw [hm]
   refine Ev.step (fun k=>?_) (B1c (by omega) (by omega) hl hs)
   simp only [D7.l0]
   rw [if_neg (by omega)]
 · obtain ⟨h1,h2,h3⟩:=hv
   have gx:=C5o hr i hi
   have ga:=B8g h2 (legs.getD i z93).f0 (legs.getD i z93).f1
   have gb:=gx.2.2
   rw [L9 z93 legs i hi] at h1
   have e:∀ k,D7.l0 (k+1) l legs short s (i:Int)=(N8.f k s (legs.getD i z93).f0 (legs.getD i z93).f1).bind fun t=>(Y8.f t (legs.getD i z93).f2).bind fun t2=>if t2.2=true then (G2.f k s (legs.getD i z93).f0 (legs.getD i z93).f1 t2.1).bind (fun t3=>D7.l0 k l legs short t3 ((i+1:Nat):Int)) else some (l,4):=by
    intro k
    simp only [D7.l0,rdL,Option.bind_some]
    rw [if_pos (by omega),if_pos (by omega),J5 hi (by omega)]
    simp only [if_pos (A9j l (by omega)),List.nil_append]
   by_cases hA:Amt (newB s (legs.getD i z93))
   · refine .inr ⟨putB s (legs.getD i z93).f0 (legs.getD i z93).f1 (newB s (legs.getD i z93)),⟨?_,B0h h2 gx.1 gx.2.1 hA,?_⟩,rfl,fun r hq=>?_⟩
     · rw [← h1]
       conv=>rhs;unfold goP
       rw [if_pos hA]
     · have:=B4u s (legs.getD i z93).f0 (legs.getD i z93).f1 (newB s (legs.getD i z93))
       omega
     · refine Ev.step e (B8 (of_s s _ _ (by omega)) ?_)
       have ht:told (ofB (legs.getD i z93).f0 (legs.getD i z93).f1 s+(legs.getD i z93).f2) true=(newB s (legs.getD i z93),true):=if_pos ⟨rfl,hA⟩
       refine Ev.congr (fun k=>by rw [C0w _ _ ga gb,Option.bind_some,ht,if_pos rfl]) ?_
       exact B8 (D2s h2 _ _ _ (by omega)) hq
   · refine .inl ?_
     have hm:mainB l legs short=(l,4):=by
      unfold mainB
      rw [← h1]
      unfold goP
      rw [if_neg hA]
     rw [hm]
     refine Ev.step e (B8 (of_s s _ _ (by omega)) ?_)
     have ht:told (ofB (legs.getD i z93).f0 (legs.getD i z93).f1 s+(legs.getD i z93).f2) true=(0,false):=if_neg fun g=>hA g.2
     exact F3 fun k=>by rw [C0w _ _ ga gb,Option.bind_some,ht,if_neg (by decide)]
theorem post_i (l:List SB) (legs:List SL) (short:List Int) (hm:l.length≤1048576) (hs:short.length≤9223372036854775807):Ev (fun k=>D9.f k l legs short) (postB l legs short):=by
 unfold D9.f
 have no:¬ (okB l=true∧A2g legs=true∧short.length≤20)→Ev (fun k=>D9.j0 k l legs short true) (postB l legs short):=fun h=>by
  have hp:postB l legs short=([],1):=if_neg h
  rw [hp]
  exact I2 fun k=>by simp only [D9.j0];rw [if_pos trivial]
 refine B8 (B5y l (by omega)) ?_
 by_cases h1:okB l=true
 · refine Ev.congr (fun k=>by rw [if_pos h1,B3r,Option.bind_some]) ?_
   by_cases h2:A2g legs=true
   · refine Ev.congr (fun k=>by rw [if_pos h2]) ?_
     by_cases h3:short.length≤20
     · rw [decide_eq_false (show ¬ (short.length:Int)>20 by omega)]
       have ho:=(okB_iff l).1 h1
       have hr:=(rightL_iff legs).1 h2
       have hl1:=ho.1
       have hp:postB l legs short=if okL legs=true then mainB l legs short else (l,2):=if_pos ⟨h1,h2,h3⟩
       rw [hp]
       refine Ev.step (fun k=>by simp only [D9.j0];rw [if_neg (by decide),C0j l (by omega),Option.bind_some]) ?_
       refine B8 (C4i legs) ?_
       by_cases h4:okL legs=true
       · rw [if_pos h4]
         exact Ev.congr (fun k=>by rw [if_pos h4,Option.bind_some]) (go_i ho hr h3)
       · rw [if_neg h4]
         exact F3 fun k=>if_neg h4
     · rw [decide_eq_true (show (short.length:Int)>20 by omega)]
       exact no fun g=>h3 g.2.2
   · exact Ev.congr (fun k=>if_neg h2) (no fun g=>h2 g.2.1)
 · exact Ev.congr (fun k=>if_neg h1) (no fun g=>h1 g.1)
theorem post_s (l:List SB) (legs:List SL) (short:List Int) (hs:short.length≤9223372036854775807):Ev (fun k=>D7.f k l legs short) (postB l legs short):=by
 unfold D7.f
 have no:¬ (okB l=true∧A2g legs=true∧short.length≤20)→Ev (fun k=>D7.j0 k l legs short true) (postB l legs short):=fun h=>by
  have hp:postB l legs short=([],1):=if_neg h
  rw [hp]
  exact I2 fun k=>by simp only [D7.j0];rw [if_pos trivial]
 refine B8 (A4f l) ?_
 by_cases h1:okB l=true
 · refine Ev.congr (fun k=>by rw [if_pos h1]) (B8 (A3f legs) ?_)
   by_cases h2:A2g legs=true
   · refine Ev.congr (fun k=>by rw [if_pos h2]) ?_
     by_cases h3:short.length≤20
     · rw [decide_eq_false (show ¬ (short.length:Int)>20 by omega)]
       have ho:=(okB_iff l).1 h1
       have hr:=(rightL_iff legs).1 h2
       have hl1:=ho.1
       have hp:postB l legs short=if okL legs=true then mainB l legs short else (l,2):=if_pos ⟨h1,h2,h3⟩
       rw [hp]
       refine Ev.step (fun k=>by simp only [D7.j0,Option.bind_some];rw [if_neg (by decide),if_pos (A9j l (by omega)),List.nil_append]) ?_
       refine B8 (C4h legs) ?_
       by_cases h4:okL legs=true
       · rw [if_pos h4]
         exact Ev.congr (fun k=>if_pos h4) (go_s ho hr h3)
       · rw [if_neg h4]
         exact F3 fun k=>if_neg h4
     · rw [decide_eq_true (show (short.length:Int)>20 by omega)]
       exact no fun g=>h3 g.2.2
   · exact Ev.congr (fun k=>if_neg h2) (no fun g=>h2 g.2.1)
 · exact Ev.congr (fun k=>if_neg h1) (no fun g=>h1 g.1)
end Go.Proofs.YtmfgajbkcnlkcaaGreat.B5
namespace Go.Proofs.YtmfgajbkcnlkcaaGreat.B6
open Go Go.RowKit Go.Proofs.YtmfgajbkcnlkcaaGreat.P Go.Proofs.YtmfgajbkcnlkcaaGreatW.PrintWords Go.Proofs.YtmfgajbkcnlkcaaGreatW.PrintLast Go.Proofs.YtmfgajbkcnlkcaaGreat.EV Go.Proofs.YtmfgajbkcnlkcaaGreat.I1 Go.Proofs.YtmfgajbkcnlkcaaGreat.N1 Go.Proofs.YtmfgajbkcnlkcaaGreat.B1 Go.Proofs.YtmfgajbkcnlkcaaGreat.B2 Go.Proofs.YtmfgajbkcnlkcaaGreat.B3 Go.Proofs.YtmfgajbkcnlkcaaGreat.B4 Go.Proofs.YtmfgajbkcnlkcaaGreat.G1 Go.Proofs.YtmfgajbkcnlkcaaGreat.B5
theorem B3v (l:List SB) (legs:List SL) (short:List Int) :
 (postB l legs short=([],1))∨(∃ c,postB l legs short=(l,c)∧(c=2∧okL legs=false∨(c=3∨c=4∨c=5)∧okL legs=true)) ∨
 (∃ o,postB l legs short=(o,0)∧okB l=true∧okL legs=true∧short.length≤20∧goP l legs=some o∧o.length≤160∧legs.any (V4 o short)=false):=by
 unfold postB
 by_cases h:okB l=true∧A2g legs=true∧short.length≤20
 · rw [if_pos h]
   by_cases h2:okL legs=true
   · rw [if_pos h2]
     unfold mainB
     cases hg:goP l legs with
     | none=>exact .inr (.inl ⟨4,rfl,.inr ⟨by omega,h2⟩⟩)
     | some o=>
       show _∨(∃ c,endB l o legs short=(l,c)∧_)∨(∃ o',endB l o legs short=(o',0)∧_)
       unfold endB
       cases ha:legs.any (V4 o short) with
       | true=>
         rw [if_pos rfl]
         exact .inr (.inl ⟨3,rfl,.inr ⟨by omega,h2⟩⟩)
       | false=>
         rw [if_neg (by decide)]
         by_cases hl:o.length≤160
         · rw [if_pos hl]
           exact .inr (.inr ⟨o,rfl,h.1,h2,h.2.2,rfl,hl,ha⟩)
         · rw [if_neg hl]
           exact .inr (.inl ⟨5,rfl,.inr ⟨by omega,h2⟩⟩)
   · rw [if_neg h2]
     exact .inr (.inl ⟨2,rfl,.inl ⟨rfl,by simpa using h2⟩⟩)
 · rw [if_neg h]
   exact .inl rfl
theorem postB_len (l:List SB) (legs:List SL) (short:List Int):(postB l legs short).1.length≤l.length+160:=by
 rcases B3v l legs short with h | ⟨c,h,_⟩ | ⟨o,h,_,_,_,_,h2,_⟩
 · rw [h];exact Nat.zero_le _
 · rw [h];exact Nat.le_add_right _ _
 · rw [h];show o.length≤_;omega
end Go.Proofs.YtmfgajbkcnlkcaaGreat.B6
namespace Go.Proofs.YtmfgajbkcnlkcaaGreat.E3
open Go Go.RowKit Go.Proofs.YtmfgajbkcnlkcaaGreat.P Go.Proofs.YtmfgajbkcnlkcaaGreatW.PrintWords Go.Proofs.YtmfgajbkcnlkcaaGreatW.PrintLast Go.Proofs.YtmfgajbkcnlkcaaGreat.EV Go.Proofs.YtmfgajbkcnlkcaaGreat.I1 Go.Proofs.YtmfgajbkcnlkcaaGreat.N1 Go.Proofs.YtmfgajbkcnlkcaaGreat.E1
def P0:List SL→List SL→List SL
 | [],ys=>ys
 | x::xs,[]=>x::xs
 | x::xs,y::ys=>if Lt x y then x::P0 xs (y::ys) else y::P0 (x::xs) ys
termination_by xs ys=>xs.length+ys.length
theorem A1l (xs:List SL):P0 xs []=xs:=by cases xs<;>simp [P0]
theorem A3w (ys:List SL):P0 [] ys=ys:=by simp [P0]
theorem A2l:∀ (xs ys:List SL),(P0 xs ys).length=xs.length+ys.length
 | [],ys=>by simp [P0]
 | x::xs,[]=>by simp [P0]
 | x::xs,y::ys=>by
   rw [P0]
   split
   · rw [List.length_cons,A2l xs (y::ys)]
     simp only [List.length_cons]
     omega
   · rw [List.length_cons,A2l (x::xs) ys]
     simp only [List.length_cons]
     omega
termination_by xs ys=>xs.length+ys.length
theorem C4d (a b:List SL) (hm:a.length+b.length≤3000000):∀ (n:Nat) (acc:List SL) (i j:Nat),(a.length-i)+(b.length-j)=n→i≤a.length→j≤b.length→acc.length≤i+j→
 Ev (fun k=>E0.l0 k a b acc (i:Int) (j:Int)) (acc++P0 (a.drop i) (b.drop j)):=by
 intro n
 induction n with
 | zero=>
   intro acc i j hn hi hj _
   have e1:a.drop i=[]:=List.drop_eq_nil_of_le (by omega)
   have e2:b.drop j=[]:=List.drop_eq_nil_of_le (by omega)
   rw [e1,e2,A1l,List.append_nil]
   refine Ev.step (f:=fun k=>E0.j1 k a b acc (i:Int) (j:Int) false) (fun k=>?_) (I2 fun k=>?_)
   · show E0.l0 (k+1) a b acc (i:Int) (j:Int)=_
     simp only [E0.l0]
     rw [if_neg (by omega),decide_eq_false (by omega)]
   · show E0.j1 (k+1) a b acc (i:Int) (j:Int) false=_
     simp only [E0.j1]
     rw [if_neg (by decide)]
 | succ n ih=>
   intro acc i j hn hi hj ha
   have e0:∀ k,E0.l0 (k+1) a b acc (i:Int) (j:Int)=E0.j1 k a b acc (i:Int) (j:Int) true:=fun k=>by
    simp only [E0.l0]
    by_cases h1:i<a.length
    · rw [if_pos (by omega)]
    · rw [if_neg (by omega),decide_eq_true (by omega)]
   refine Ev.step e0 ?_
   have takeA:i<a.length→P0 (a.drop i) (b.drop j)=a.getD i z110::P0 (a.drop (i+1)) (b.drop j)→(∀ k,E0.j1 (k+1) a b acc (i:Int) (j:Int) true=E0.l0 k a b (acc++[a.getD i z110]) ((i+1:Nat):Int) (j:Int))→Ev (fun k=>E0.j1 k a b acc (i:Int) (j:Int) true) (acc++P0 (a.drop i) (b.drop j)):=by
    intro h1 h2 h3
    have h4:=ih (acc++[a.getD i z110]) (i+1) j (by omega) (by omega) hj (by rw [List.length_append,List.length_singleton];omega)
    rw [h2,show acc++a.getD i z110::P0 (a.drop (i+1)) (b.drop j)=(acc++[a.getD i z110])++P0 (a.drop (i+1)) (b.drop j) by rw [List.append_assoc];rfl]
    exact Ev.step h3 h4
   have A9x:j<b.length→P0 (a.drop i) (b.drop j)=b.getD j z110::P0 (a.drop i) (b.drop (j+1))→(∀ k,E0.j1 (k+1) a b acc (i:Int) (j:Int) true=E0.l0 k a b (acc++[b.getD j z110]) (i:Int) ((j+1:Nat):Int))→Ev (fun k=>E0.j1 k a b acc (i:Int) (j:Int) true) (acc++P0 (a.drop i) (b.drop j)):=by
    intro h1 h2 h3
    have h4:=ih (acc++[b.getD j z110]) i (j+1) (by omega) hi (by omega) (by rw [List.length_append,List.length_singleton];omega)
    rw [h2,show acc++b.getD j z110::P0 (a.drop i) (b.drop (j+1))=(acc++[b.getD j z110])++P0 (a.drop i) (b.drop (j+1)) by rw [List.append_assoc];rfl]
    exact Ev.step h3 h4
   by_cases hb:j=b.length
   · have h1:i<a.length:=by omega
     refine takeA h1 (by rw [show b.drop j=[] from List.drop_eq_nil_of_le (by omega),A1l,A1l,L9 z110 a i h1]) fun k=>?_
     simp only [E0.j1]
     rw [if_pos trivial,if_pos (by omega),if_pos (by omega),if_pos (by omega),if_pos (by omega),J5 h1 (by omega)]
     simp only [rdL]
   · have h2:j<b.length:=by omega
     by_cases h1:i<a.length
     · by_cases hl:Lt (a.getD i z110) (b.getD j z110)
       · refine takeA h1 (by rw [L9 z110 a i h1,L9 z110 b j h2,P0,if_pos hl]) fun k=>?_
         simp only [E0.j1]
         rw [if_pos trivial,if_neg (by omega),if_pos (by omega),if_pos (by omega),if_pos (by omega),if_pos (by omega),J5 h1 (by omega)]
         simp only [rdL,A2a,Option.bind_some,decide_eq_true_iff]
         rw [if_pos hl,if_pos (by omega)]
       · refine A9x h2 (by rw [L9 z110 a i h1,L9 z110 b j h2,P0,if_neg hl]) fun k=>?_
         simp only [E0.j1]
         rw [if_pos trivial,if_neg (by omega),if_pos (by omega),if_pos (by omega),if_pos (by omega),if_pos (by omega),J5 h2 (by omega)]
         simp only [rdL,A2a,Option.bind_some,decide_eq_true_iff]
         rw [if_neg hl,if_pos (by omega)]
     · refine A9x h2 (by rw [show a.drop i=[] from List.drop_eq_nil_of_le (by omega),A3w,A3w,L9 z110 b j h2]) fun k=>?_
       simp only [E0.j1]
       rw [if_pos trivial,if_neg (by omega),if_neg (by omega),if_pos (by omega),if_pos (by omega),if_pos (by omega),J5 h2 (by omega)]
       simp only [rdL]
theorem B3z (a b:List SL) (hm:a.length+b.length≤3000000):Ev (fun k=>E0.f k a b) (P0 a b):=by
 unfold E0.f
 have h:=C4d a b hm _ [] 0 0 rfl (Nat.zero_le _) (Nat.zero_le _) (Nat.le_refl _)
 rw [List.drop_zero,List.drop_zero,List.nil_append] at h
 exact h
end Go.Proofs.YtmfgajbkcnlkcaaGreat.E3
namespace Go.Proofs.YtmfgajbkcnlkcaaGreat.E4
open Go Go.RowKit Go.Proofs.YtmfgajbkcnlkcaaGreat.P Go.Proofs.YtmfgajbkcnlkcaaGreatW.PrintWords Go.Proofs.YtmfgajbkcnlkcaaGreatW.PrintLast Go.Proofs.YtmfgajbkcnlkcaaGreat.EV Go.Proofs.YtmfgajbkcnlkcaaGreat.I1 Go.Proofs.YtmfgajbkcnlkcaaGreat.N1 Go.Proofs.YtmfgajbkcnlkcaaGreat.E1 Go.Proofs.YtmfgajbkcnlkcaaGreat.E2 Go.Proofs.YtmfgajbkcnlkcaaGreat.E3
theorem C8y (x:SL):A9.ok [x]=decide (E1.Form x):=by
 rw [Bool.eq_iff_iff,ok_iff,decide_eq_true_iff]
 constructor
 · intro h
   exact h.2.1 x (List.mem_cons_self ..)
 · intro h
   refine ⟨by simp,fun y hy=>?_,trivial,fun a b=>?_⟩
   · rw [List.mem_singleton.1 hy]
     exact h
   · unfold E1.Form at h
     simp only [qty,cst]
     unfold Amt
     split<;>omega
def at_ (x:SL):List SL→Nat
 | []=>0
 | y::ys=>if Lt y x then at_ x ys+1 else 0
theorem D2b (x:SL):∀ l:List SL,at_ x l≤l.length
 | []=>Nat.le_refl _
 | y::ys=>by
   simp only [at_,List.length_cons]
   split
   · have:=D2b x ys
     omega
   · omega
theorem B0n (x:SL):∀ l:List SL,P0 l [x]=l.take (at_ x l)++[x]++l.drop (at_ x l)
 | []=>by simp [P0,at_]
 | y::ys=>by
   rw [P0]
   simp only [at_]
   split
   · rw [B0n x ys]
     simp
   · rw [A1l]
     simp
def openL (l:List SL) (x:SL):List SL×Int:=if A9.ok l=true∧E1.Form x then (if A9.ok (P0 l [x])=true then (P0 l [x],0) else (l,3)) else ([],1)
theorem open_len (l:List SL) (x:SL):(openL l x).1.length≤l.length+1:=by
 unfold openL
 split
 · split
   · show (P0 l [x]).length≤_
     rw [A2l]
     simp
   · exact Nat.le_succ _
 · exact Nat.zero_le _
theorem open_s (l:List SL) (x:SL) (hl:l.length≤1048576):Ev (fun k=>I7.f k l x.f0 x.f1 x.f2 x.f3 x.f4) (openL l x):=by
 unfold I7.f openL
 have bad:Ev (fun k=>I7.j0 k l true x.f0 x.f1 x.f2 x.f3 x.f4) (([]:List SL),(1:Int)):=I2 fun k=>by
  simp only [I7.j0]
  rw [if_pos trivial]
 refine B8 (lotsOk_s l) ?_
 by_cases h:A9.ok l=true
 · refine Ev.congr (fun k=>by rw [if_pos h,A3f,Option.bind_some]) ?_
   by_cases hf:E1.Form x
   · rw [if_pos ⟨h,hf⟩]
     refine Ev.step (f:=fun k=>(E0.f k l [x]).bind fun t=>(C7.f k t).bind fun t2=>if t2=true then some (t,0) else (some (([]:List SL):List SL)).bind fun y=>if y.length+l.length<3518437208883 then some (y++l,3) else none) (fun k=>?_) ?_
     · rw [decide_eq_true hf]
       simp only [I7.j0]
       rw [if_neg (by decide)]
     · refine B8 (B3z l [x] (by simp;omega)) (B8 (lotsOk_s _) ?_)
       by_cases ho:A9.ok (P0 l [x])=true
       · exact F3 fun k=>by
          rw [if_pos ho,if_pos ho]
       · exact F3 fun k=>by
          rw [if_neg ho,if_neg ho,Option.bind_some,if_pos (by simp;omega),List.nil_append]
   · rw [if_neg fun g=>hf g.2]
     exact Ev.congr (fun k=>by rw [decide_eq_false hf];rfl) bad
 · rw [if_neg fun g=>h g.1]
   exact Ev.congr (fun k=>if_neg h) bad
theorem D5d (a b:SL):L3.f 1 a.f0 a.f1 a.f2 a.f3 a.f4 b.f0 b.f1 b.f2 b.f3 b.f4=some (A9.cmp a b):=by
 unfold L3.f F8.f A9.cmp
 simp only [F8.j0]
 by_cases h0:a.f0<b.f0
 · simp [h0]
 · by_cases h1:a.f0=b.f0
   · have n1:¬b.f0<a.f0:=by omega
     by_cases h2:a.f1<b.f1
     · simp [h1,h2]
     · by_cases h3:a.f1=b.f1
       · by_cases h4:a.f2<b.f2
         · simp [h1,h3,h4]
         · by_cases h5:b.f2<a.f2<;>simp [h1,h3,h4,h5]
       · have n3:b.f1<a.f1:=by omega
         simp [h1,h2,h3,n3]
   · have n1:b.f0<a.f0:=by omega
     simp [h0,h1,n1]
theorem C4y (x y:SL):Ev (fun k=>L3.f k x.f0 x.f1 x.f2 x.f3 x.f4 y.f0 y.f1 y.f2 y.f3 y.f4) (A9.cmp x y):=by
 have h:=D5d x y
 refine ⟨1,fun k hk=>?_⟩
 obtain ⟨m,rfl⟩:∃ m,k=m+1:=⟨k-1,by omega⟩
 rw [← h]
 unfold L3.f F8.f
 simp only [F8.j0]
theorem C8h (l:List SL) (x:SL) (hl:l.length≤1048576) (R:List SL×Int) (hj:Ev (fun k=>D1.j2 k l ((at_ x l:Nat):Int) x.f0 x.f1 x.f2 x.f3 x.f4) R):Ev (fun k=>D1.l0 k l 0 x.f0 x.f1 x.f2 x.f3 x.f4) R:=by
 have h:∀ (n i:Nat),l.length-i=n→i≤l.length→at_ x l=i+at_ x (l.drop i)→Ev (fun k=>D1.l0 k l (i:Int) x.f0 x.f1 x.f2 x.f3 x.f4) R:=by
  intro n
  induction n with
  | zero=>
    intro i hn hi he
    have e:l.drop i=[]:=List.drop_eq_nil_of_le (by omega)
    rw [e] at he
    have e2:at_ x l=i:=he
    rw [e2] at hj
    refine Ev.step (fun k=>?_) hj
    show D1.l0 (k+1) l (i:Int) x.f0 x.f1 x.f2 x.f3 x.f4=_
    simp only [D1.l0]
    rw [if_neg (by omega)]
  | succ n ih=>
    intro i hn hi he
    have h1:i<l.length:=by omega
    rw [L9 z110 l i h1] at he
    simp only [at_] at he
    refine Ev.step (f:=fun k=>(L3.f k (l.getD i z110).f0 (l.getD i z110).f1 (l.getD i z110).f2 (l.getD i z110).f3 (l.getD i z110).f4 x.f0 x.f1 x.f2 x.f3 x.f4).bind fun t=>if t<0 then D1.l0 k l ((i+1:Nat):Int) x.f0 x.f1 x.f2 x.f3 x.f4 else D1.j2 k l (i:Int) x.f0 x.f1 x.f2 x.f3 x.f4) (fun k=>?_) (B8 (C4y _ x) ?_)
    · show D1.l0 (k+1) l (i:Int) x.f0 x.f1 x.f2 x.f3 x.f4=_
      simp only [D1.l0]
      rw [if_pos (by omega),if_pos (by omega),J5 h1 (by omega)]
      simp only [rdL]
    · have hc:=A1z (l.getD i z110) x
      by_cases hlt:Lt (l.getD i z110) x
      · rw [if_pos hlt] at he
        refine Ev.congr (fun k=>if_pos (by have h2:¬(0≤A9.cmp (l.getD i z110) x):=fun h2=>hc.1 h2 hlt;omega)) (ih (i+1) (by omega) (by omega) (by omega))
      · rw [if_neg hlt] at he
        have e2:at_ x l=i:=by omega
        rw [e2] at hj
        exact Ev.congr (fun k=>if_neg (by have h2:=hc.2 hlt;omega)) hj
 exact h l.length 0 (by omega) (Nat.zero_le _) (by rw [List.drop_zero];omega)
theorem open_i (l:List SL) (x:SL) (hl:l.length≤1048576):Ev (fun k=>D1.f k l x.f0 x.f1 x.f2 x.f3 x.f4) (openL l x):=by
 unfold D1.f openL
 have bad:Ev (fun k=>D1.j0 k l true x.f0 x.f1 x.f2 x.f3 x.f4) (([]:List SL),(1:Int)):=I2 fun k=>by
  simp only [D1.j0]
  rw [if_pos trivial]
 have okf:∀ m:List SL,m.length<1048577→A9.f m=some (A9.ok m):=fun m h=>by
  unfold A9.f
  rw [if_pos h]
 by_cases h:A9.ok l=true
 · have h120:l.length≤120:=((ok_iff l).1 h).1
   refine Ev.congr (fun k=>by rw [okf l (by omega),Option.bind_some,if_pos h,okf [x] (by simp),Option.bind_some,C8y]) ?_
   by_cases hf:E1.Form x
   · rw [if_pos ⟨h,hf⟩]
     refine Ev.step (f:=fun k=>D1.l0 k l 0 x.f0 x.f1 x.f2 x.f3 x.f4) (fun k=>?_) (C8h l x hl _ (I2 fun k=>?_))
     · rw [decide_eq_true hf]
       simp only [D1.j0]
       rw [if_neg (by decide)]
     · have ha:=D2b x l
       have c1:J1.f l=some l:=by
        unfold J1.f
        rw [Option.bind_some,if_pos (by simp;omega),List.nil_append]
       have c2:G7.f l ((at_ x l:Nat):Int) [x]=some (P0 l [x]):=by
        unfold G7.f
        rw [if_pos ⟨by omega,by omega,rfl,by omega⟩,B0n,Int.toNat_natCast]
       show D1.j2 (k+1) l ((at_ x l:Nat):Int) x.f0 x.f1 x.f2 x.f3 x.f4=_
       simp only [D1.j2]
       rw [c1,Option.bind_some]
       show ((G7.f l ((at_ x l:Nat):Int) [x]).bind _)=_
       rw [c2,Option.bind_some,okf _ (by rw [A2l];simp;omega),Option.bind_some]
       by_cases ho:A9.ok (P0 l [x])=true
       · rw [if_pos ho,if_pos ho]
       · rw [if_neg ho,if_neg ho]
         rfl
   · rw [if_neg fun g=>hf g.2]
     exact Ev.congr (fun k=>by rw [decide_eq_false hf];rfl) bad
 · rw [if_neg fun g=>h g.1]
   exact Ev.congr (fun k=>by rw [okf l (by omega),Option.bind_some,if_neg h]) bad
end Go.Proofs.YtmfgajbkcnlkcaaGreat.E4
namespace Go.Proofs.YtmfgajbkcnlkcaaGreat.L1
open Go Go.RowKit
theorem u64w (n:Int):IntKind.u64.wrap n=n % 18446744073709551616:=by simp [IntKind.wrap,IntKind.bits,IntKind.signed]
theorem P6 (n:Int) (h0:0≤n) (h1:n<18446744073709551616):IntKind.u64.wrap n=n:=by rw [u64w];omega
theorem A9s (n:Int) (h₀:0≤n) (h₁:n<2 ^ 64):IntKind.u64.wrap n=n:=P6 n h₀ (by simpa using h₁)
theorem C0u (x:Int) (h0:0≤x) (h1:x<18446744073709551616):Go.bits .and .u64 x 4294967295=x % 4294967296:=
 bits_mask .u64 64 (by decide) A9s 32 (by decide) x h0 (by simpa using h1)
theorem U4 (n:Int) (h0 : -9223372036854775808≤n) (h1:n≤9223372036854775807):wrap64 n=n:=by unfold wrap64;omega
theorem D2w (a b:Int) (ha0:0≤a) (ha:a<18446744073709551616) (hb0:0≤b) (hb:b<18446744073709551616) :
 IntKind.u64.wrap ((IntKind.u64.wrap ((IntKind.u64.wrap ((a/4294967296)*(b/4294967296)))+((IntKind.u64.wrap ((IntKind.u64.wrap ((a/4294967296)*(Go.bits .and .u64 b 4294967295)))+((IntKind.u64.wrap ((Go.bits .and .u64 a 4294967295)*(Go.bits .and .u64 b 4294967295)))/4294967296)))/4294967296)))+((IntKind.u64.wrap ((Go.bits .and .u64 (IntKind.u64.wrap ((IntKind.u64.wrap ((a/4294967296)*(Go.bits .and .u64 b 4294967295)))+((IntKind.u64.wrap ((Go.bits .and .u64 a 4294967295)*(Go.bits .and .u64 b 4294967295)))/4294967296))) 4294967295)+(IntKind.u64.wrap ((Go.bits .and .u64 a 4294967295)*(b/4294967296)))))/4294967296))=a*b/18446744073709551616:=by
 obtain ⟨x,rfl⟩:=Int.eq_ofNat_of_zero_le ha0
 obtain ⟨y,rfl⟩:=Int.eq_ofNat_of_zero_le hb0
 have hx:x<18446744073709551616:=by omega
 have hy:y<18446744073709551616:=by omega
 obtain ⟨h1,h2,h3,h4⟩:=Lib.mul64_hi x y hx hy
 have e1:((x:Int)/4294967296)=((x/4294967296:Nat):Int):=by omega
 have e2:((y:Int)/4294967296)=((y/4294967296:Nat):Int):=by omega
 have e3:((x:Int) % 4294967296)=((x % 4294967296:Nat):Int):=by omega
 have e4:((y:Int) % 4294967296)=((y % 4294967296:Nat):Int):=by omega
 have ep:((x:Int)*(y:Int))=((x*y:Nat):Int):=(Int.natCast_mul _ _).symm
 have eh:((x*y/18446744073709551616:Nat):Int)=((x*y:Nat):Int)/18446744073709551616:=by omega
 have ma:=Lib.half_mul_le (a:=x/4294967296) (b:=y/4294967296) (by omega) (by omega)
 have mb:=Lib.half_mul_le (a:=x/4294967296) (b:=y % 4294967296) (by omega) (by omega)
 have mc:=Lib.half_mul_le (a:=x % 4294967296) (b:=y/4294967296) (by omega) (by omega)
 have md:=Lib.half_mul_le (a:=x % 4294967296) (b:=y % 4294967296) (by omega) (by omega)
 rw [C0u _ ha0 ha,C0u _ hb0 hb,e1,e2,e3,e4,ep,← eh,← h4]
 have p1:(((x/4294967296:Nat):Int)*((y/4294967296:Nat):Int))=((x/4294967296*(y/4294967296):Nat):Int):=(Int.natCast_mul _ _).symm
 have p2:(((x/4294967296:Nat):Int)*((y % 4294967296:Nat):Int))=((x/4294967296*(y % 4294967296):Nat):Int):=(Int.natCast_mul _ _).symm
 have p3:(((x % 4294967296:Nat):Int)*((y/4294967296:Nat):Int))=((x % 4294967296*(y/4294967296):Nat):Int):=(Int.natCast_mul _ _).symm
 have p4:(((x % 4294967296:Nat):Int)*((y % 4294967296:Nat):Int))=((x % 4294967296*(y % 4294967296):Nat):Int):=(Int.natCast_mul _ _).symm
 rw [p1,p2,p3,p4]
 generalize x/4294967296*(y/4294967296)=a at *
 generalize x/4294967296*(y % 4294967296)=b at *
 generalize x % 4294967296*(y/4294967296)=c at *
 generalize x % 4294967296*(y % 4294967296)=d at *
 have q1:IntKind.u64.wrap (a:Int)=a:=P6 _ (by omega) (by omega)
 have q2:IntKind.u64.wrap (b:Int)=b:=P6 _ (by omega) (by omega)
 have q3:IntKind.u64.wrap (c:Int)=c:=P6 _ (by omega) (by omega)
 have q4:IntKind.u64.wrap (d:Int)=d:=P6 _ (by omega) (by omega)
 rw [q1,q2,q3,q4]
 have q5:IntKind.u64.wrap ((b:Int)+(d:Int)/4294967296)=(b:Int)+(d:Int)/4294967296:=P6 _ (by omega) (by omega)
 rw [q5,C0u _ (by omega) (by omega)]
 have q6:IntKind.u64.wrap (((b:Int)+(d:Int)/4294967296) % 4294967296+(c:Int))=((b:Int)+(d:Int)/4294967296) % 4294967296+(c:Int):=P6 _ (by omega) (by omega)
 have q7:IntKind.u64.wrap ((a:Int)+((b:Int)+(d:Int)/4294967296)/4294967296)=(a:Int)+((b:Int)+(d:Int)/4294967296)/4294967296:=P6 _ (by omega) (by omega)
 rw [q6,q7,u64w]
 omega
end Go.Proofs.YtmfgajbkcnlkcaaGreat.L1
namespace Go.Proofs.YtmfgajbkcnlkcaaGreat.A2
open Go Go.RowKit Go.Proofs.YtmfgajbkcnlkcaaGreat.P Go.Proofs.YtmfgajbkcnlkcaaGreatW.PrintWords Go.Proofs.YtmfgajbkcnlkcaaGreatW.PrintLast Go.Proofs.YtmfgajbkcnlkcaaGreatW.PrintMore Go.Proofs.YtmfgajbkcnlkcaaGreat.EV Go.Proofs.YtmfgajbkcnlkcaaGreat.L1 Go.Proofs.YtmfgajbkcnlkcaaGreat.I1
def Bits (x:Int) (n:Nat):Prop:=(x=0∧n=0)∨(0<n∧2 ^ (n-1)≤x∧x<2 ^ n)
def tab:ByteArray:=(⟨#[0,1,2,2,3,3,3,3,4,4,4,4,4,4,4,4,5,5,5,5,5,5,5,5,5,5,5,5,5,5,5,5,6,6,6,6,6,6,6,6,6,6,6,6,6,6,6,6,6,6,6,6,6,6,6,6,6,6,6,6,6,6,6,6,7,7,7,7,7,7,7,7,7,7,7,7,7,7,7,7,7,7,7,7,7,7,7,7,7,7,7,7,7,7,7,7,7,7,7,7,7,7,7,7,7,7,7,7,7,7,7,7,7,7,7,7,7,7,7,7,7,7,7,7,7,7,7,7,8,8,8,8,8,8,8,8,8,8,8,8,8,8,8,8,8,8,8,8,8,8,8,8,8,8,8,8,8,8,8,8,8,8,8,8,8,8,8,8,8,8,8,8,8,8,8,8,8,8,8,8,8,8,8,8,8,8,8,8,8,8,8,8,8,8,8,8,8,8,8,8,8,8,8,8,8,8,8,8,8,8,8,8,8,8,8,8,8,8,8,8,8,8,8,8,8,8,8,8,8,8,8,8,8,8,8,8,8,8,8,8,8,8,8,8,8,8,8,8,8,8,8,8,8,8,8,8]⟩:ByteArray)
theorem tab8:∀ x:Fin 256,0≤bt tab (x.val:Int)∧bt tab (x.val:Int)≤8∧((x.val=0∧bt tab (x.val:Int)=0)∨(0<bt tab (x.val:Int)∧(2:Int) ^ ((bt tab (x.val:Int)).toNat-1)≤x.val∧(x.val:Int)<2 ^ (bt tab (x.val:Int)).toNat)):=by decide +kernel
theorem B4l (x:Int) (h0:0≤x) (h1:x<256):∃ n:Nat,bt tab x=(n:Int)∧n≤8∧Bits x n:=by
 obtain ⟨m,rfl⟩:=Int.eq_ofNat_of_zero_le h0
 obtain ⟨a,b,c⟩:0≤bt tab (m:Int)∧bt tab (m:Int)≤8∧((m=0∧bt tab (m:Int)=0)∨(0<bt tab (m:Int)∧(2:Int) ^ ((bt tab (m:Int)).toNat-1)≤m∧(m:Int)<2 ^ (bt tab (m:Int)).toNat)):=tab8 ⟨m,by omega⟩
 refine ⟨(bt tab (m:Int)).toNat,by omega,by omega,?_⟩
 rcases c with ⟨c1,c2⟩ | ⟨c1,c2,c3⟩
 · exact .inl ⟨by omega,by omega⟩
 · exact .inr ⟨by omega,c2,c3⟩
theorem A9m {x y:Int} {n:Nat} (s:Nat) (hs:y=x/2 ^ s) (hy:0<y) (h:Bits y n):Bits x (n+s):=by
 rcases h with ⟨h,_⟩ | ⟨h0,h1,h2⟩
 · omega
 · have hp:(0:Int)<2 ^ s:=Int.pow_pos (by decide)
   have e1:(2:Int) ^ (n+s-1)=2 ^ (n-1)*2 ^ s:=by rw [← Int.pow_add];congr 1;omega
   have e2:(2:Int) ^ (n+s)=2 ^ n*2 ^ s:=Int.pow_add _ _ _
   refine .inr ⟨by omega,?_,?_⟩
   · rw [e1]
     exact Int.le_trans (Int.mul_le_mul_of_nonneg_right h1 (Int.le_of_lt hp)) (by rw [hs];exact Int.ediv_mul_le x (Int.ne_of_gt hp))
   · rw [e2]
     have:=Int.lt_ediv_add_one_mul_self x hp
     rw [← hs] at this
     exact Int.lt_of_lt_of_le this (Int.mul_le_mul_of_nonneg_right (by omega) (Int.le_of_lt hp))
def C0o (x c:Int):Option Int:=if x≥65536 then (if (x/65536)≥256 then (if 0≤(((x/65536)/256) % 256) then (if (((x/65536)/256) % 256)<256 then (some (wrap64 ((wrap64 ((wrap64 (c+16))+8))+(wrap64 (bt tab (((x/65536)/256) % 256)))))) else (none)) else (none)) else (if 0≤((x/65536) % 256) then (if ((x/65536) % 256)<256 then (some (wrap64 ((wrap64 (c+16))+(wrap64 (bt tab ((x/65536) % 256)))))) else (none)) else (none))) else (if x≥256 then (if 0≤((x/256) % 256) then (if ((x/256) % 256)<256 then (some (wrap64 ((wrap64 (c+8))+(wrap64 (bt tab ((x/256) % 256)))))) else (none)) else (none)) else (if 0≤((x) % 256) then (if ((x) % 256)<256 then (some (wrap64 (c+(wrap64 (bt tab ((x) % 256)))))) else (none)) else (none)))
theorem A5i (k:Nat) (x c:Int):P9.j0 (k+1) x c=C0o x c:=rfl
theorem C5n (x c:Int) (h0:0≤x) (h1:x<4294967296) (hc:0≤c) (hc2:c≤32):∃ n:Nat,n≤32∧Bits x n∧∀ k,P9.j0 (k+1) x c=some (c+n):=by
 by_cases a:x≥65536
 · by_cases b:x/65536≥256
   · obtain ⟨n,e,hn,hb⟩:=B4l (x/65536/256) (by omega) (by omega)
     refine ⟨n+24,by omega,A9m 24 (by omega) (by omega) hb,fun k=>?_⟩
     rw [A5i]
     unfold C0o
     rw [if_pos a,if_pos b,show x/65536/256 % 256=x/65536/256 by omega,if_pos (by omega),if_pos (by omega)]
     rw [e,U4 (c+16) (by omega) (by omega),U4 (c+16+8) (by omega) (by omega),U4 (n:Int) (by omega) (by omega),U4 _ (by omega) (by omega)]
     exact congrArg some (by omega)
   · obtain ⟨n,e,hn,hb⟩:=B4l (x/65536) (by omega) (by omega)
     refine ⟨n+16,by omega,A9m 16 (by omega) (by omega) hb,fun k=>?_⟩
     rw [A5i]
     unfold C0o
     rw [if_pos a,if_neg b,show x/65536 % 256=x/65536 by omega,if_pos (by omega),if_pos (by omega)]
     rw [e,U4 (c+16) (by omega) (by omega),U4 (n:Int) (by omega) (by omega),U4 _ (by omega) (by omega)]
     exact congrArg some (by omega)
 · by_cases b:x≥256
   · obtain ⟨n,e,hn,hb⟩:=B4l (x/256) (by omega) (by omega)
     refine ⟨n+8,by omega,A9m 8 (by omega) (by omega) hb,fun k=>?_⟩
     rw [A5i]
     unfold C0o
     rw [if_neg a,if_pos b,show x/256 % 256=x/256 by omega,if_pos (by omega),if_pos (by omega)]
     rw [e,U4 (c+8) (by omega) (by omega),U4 (n:Int) (by omega) (by omega),U4 _ (by omega) (by omega)]
     exact congrArg some (by omega)
   · obtain ⟨n,e,hn,hb⟩:=B4l x (by omega) (by omega)
     refine ⟨n,by omega,hb,fun k=>?_⟩
     rw [A5i]
     unfold C0o
     rw [if_neg a,if_neg b,show x % 256=x by omega,if_pos (by omega),if_pos (by omega)]
     rw [e,U4 (n:Int) (by omega) (by omega),U4 _ (by omega) (by omega)]
theorem C6e (y:Int) (h0:0<y) (h1:y<18446744073709551616):∃ s:Nat,s≤63∧9223372036854775808≤y*2 ^ s∧y*2 ^ s<18446744073709551616∧∀ k,Q4.f (k+1) y=some (s:Int):=by
 have fin:∀ n:Nat,n≤64→Bits y n→∃ s:Nat,s≤63∧(s:Int)=64-n∧9223372036854775808≤y*2 ^ s∧y*2 ^ s<18446744073709551616:=by
  intro n hn hb
  rcases hb with ⟨h,_⟩ | ⟨a,b,c⟩
  · omega
  · have hp:(0:Int)<2 ^ (64-n):=Int.pow_pos (by decide)
    refine ⟨64-n,by omega,by omega,?_,?_⟩
    · have e:(9223372036854775808:Int)=2 ^ (n-1)*2 ^ (64-n):=by rw [← Int.pow_add,show n-1+(64-n)=63 by omega];decide
      rw [e]
      exact Int.mul_le_mul_of_nonneg_right b (Int.le_of_lt hp)
    · have e:(18446744073709551616:Int)=2 ^ n*2 ^ (64-n):=by rw [← Int.pow_add,show n+(64-n)=64 by omega];decide
      rw [e]
      exact Int.mul_lt_mul_of_pos_right c hp
 by_cases a:y≥4294967296
 · obtain ⟨n,hn,hb,e⟩:=C5n (y/4294967296) 32 (by omega) (by omega) (by decide) (by decide)
   obtain ⟨s,s0,s1,s2,s3⟩:=fin (n+32) (by omega) (A9m 32 (by omega) (by omega) hb)
   refine ⟨s,s0,s2,s3,fun k=>?_⟩
   unfold Q4.f P9.f
   rw [if_pos a,e,Option.bind_some,U4 _ (by omega) (by omega)]
   exact congrArg some (by omega)
 · obtain ⟨n,hn,hb,e⟩:=C5n y 0 (by omega) (by omega) (by decide) (by decide)
   obtain ⟨s,s0,s1,s2,s3⟩:=fin n (by omega) hb
   refine ⟨s,s0,s2,s3,fun k=>?_⟩
   unfold Q4.f P9.f
   rw [if_neg a,e,Option.bind_some,U4 _ (by omega) (by omega)]
   exact congrArg some (by omega)
structure A9p (yn1 yn0 n u q r:Int):Prop where
 q0:0≤q
 q1:q≤4294967297
 r0:0≤r
 r1:r<4294967296
 e:q*yn1+r=n
 up:n*4294967296+u<(q*yn1)*4294967296+q*yn0+yn1*4294967296+yn0
structure A3d (yn1 yn0 n u:Int):Prop where
 a0:2147483648≤yn1
 a1:yn1<4294967296
 b0:0≤yn0
 b1:yn0<4294967296
 u0:0≤u
 u1:u<4294967296
 n0:0≤n
 n1:n<yn1*4294967296+yn0
theorem A9g {yn1 yn0 n u q:Int} (h:A3d yn1 yn0 n u) (hq:(q*yn1)*4294967296+q*yn0≤n*4294967296+u):q<4294967296:=by
 obtain ⟨a0,a1,b0,b1,u0,u1,n0,n1⟩:=h
 rcases (by omega:q<4294967296∨4294967296≤q) with hlt | hge
 · exact hlt
 · exfalso
   have p1:4294967296*yn1≤q*yn1:=Int.mul_le_mul_of_nonneg_right hge (by omega)
   have p2:4294967296*yn0≤q*yn0:=Int.mul_le_mul_of_nonneg_right hge b0
   generalize q*yn1=A at *
   generalize q*yn0=C at *
   omega
theorem A2s {yn1 yn0 n u q r:Int} (h:A3d yn1 yn0 n u) (t:A9p yn1 yn0 n u q r) (ht:4294967296≤q∨4294967296*r+u<q*yn0) :
 1≤q∧n*4294967296+u<(q*yn1)*4294967296+q*yn0∧(q-1)*yn1=q*yn1-yn1∧(q-1)*yn0=q*yn0-yn0∧q*yn0-yn0≤18446744069414584320:=by
 obtain ⟨a0,a1,b0,b1,u0,u1,n0,n1⟩:=h
 obtain ⟨q0,q1,r0,r1,e,up⟩:=t
 have e1:(q-1)*yn1=q*yn1-yn1:=by rw [Int.sub_mul,Int.one_mul]
 have e0:(q-1)*yn0=q*yn0-yn0:=by rw [Int.sub_mul,Int.one_mul]
 have h1:1≤q:=by
  rcases (by omega:q=0∨1≤q) with hz | hz
  · subst hz
    rw [Int.zero_mul] at ht
    omega
  · exact hz
 have hb:(q-1)*yn0≤4294967296*4294967295:=Int.mul_le_mul (by omega) (by omega) b0 (by decide)
 refine ⟨h1,?_,e1,e0,by omega⟩
 rcases ht with ht | ht
 · have p1:4294967296*yn1≤q*yn1:=Int.mul_le_mul_of_nonneg_right ht (by omega)
   have p2:4294967296*yn0≤q*yn0:=Int.mul_le_mul_of_nonneg_right ht b0
   generalize q*yn1=A at *
   generalize q*yn0=C at *
   omega
 · generalize q*yn1=A at *
   generalize q*yn0=C at *
   omega
def Right (yn1 yn0 n u q:Int):Prop:=0≤q∧(q*yn1)*4294967296+q*yn0≤n*4294967296+u∧n*4294967296+u<(q*yn1)*4294967296+q*yn0+yn1*4294967296+yn0
theorem A7d {yn1 yn0 n u q r:Int} (t:A9p yn1 yn0 n u q r) (h2:¬ 4294967296*r+u<q*yn0):Right yn1 yn0 n u q:=by
 obtain ⟨q0,q1,r0,r1,e,up⟩:=t
 refine ⟨q0,?_,up⟩
 generalize q*yn1=A at *
 generalize q*yn0=C at *
 omega
theorem A7e {yn1 yn0 n u q r:Int} (h:A3d yn1 yn0 n u) (t:A9p yn1 yn0 n u q r) (ht:4294967296≤q∨4294967296*r+u<q*yn0) (hr:r+yn1<4294967296):A9p yn1 yn0 n u (q-1) (r+yn1):=by
 obtain ⟨h1,h2,e1,e0,hb⟩:=A2s h t ht
 obtain ⟨a0,a1,b0,b1,u0,u1,n0,n1⟩:=h
 obtain ⟨q0,q1,r0,r1,e,up⟩:=t
 refine ⟨by omega,by omega,by omega,hr,?_,?_⟩
 · rw [e1]
   omega
 · rw [e1,e0]
   generalize q*yn1=A at *
   generalize q*yn0=C at *
   omega
theorem A7f {yn1 yn0 n u q r:Int} (h:A3d yn1 yn0 n u) (t:A9p yn1 yn0 n u q r) (ht:4294967296≤q∨4294967296*r+u<q*yn0) (hr:4294967296≤r+yn1):Right yn1 yn0 n u (q-1):=by
 obtain ⟨h1,h2,e1,e0,hb⟩:=A2s h t ht
 obtain ⟨a0,a1,b0,b1,u0,u1,n0,n1⟩:=h
 obtain ⟨q0,q1,r0,r1,e,up⟩:=t
 unfold Right
 rw [e1,e0]
 generalize q*yn1=A at *
 generalize q*yn0=C at *
 omega
theorem B7g {yn1 yn0 n u q r:Int} (h:A3d yn1 yn0 n u) (t:A9p yn1 yn0 n u q r) (hq:¬ q≥4294967296) :
 decide (IntKind.u64.wrap (q*yn0)>IntKind.u64.wrap (IntKind.u64.wrap (4294967296*r)+u))=decide (4294967296*r+u<q*yn0):=by
 obtain ⟨a0,a1,b0,b1,u0,u1,n0,n1⟩:=h
 obtain ⟨q0,q1,r0,r1,e,up⟩:=t
 have hb:q*yn0≤4294967295*4294967295:=Int.mul_le_mul (by omega) (by omega) b0 (by decide)
 have hz:0≤q*yn0:=Int.mul_nonneg q0 b0
 rw [P6 (q*yn0) hz (by omega),P6 (4294967296*r) (by omega) (by omega),P6 _ (by omega) (by omega)]
theorem A5n {yn1 yn0 n u:Int} (h:A3d yn1 yn0 n u):A9p yn1 yn0 n u (n/yn1) (n-n/yn1*yn1)∧0≤n/yn1*yn1∧n/yn1*yn1≤n:=by
 obtain ⟨a0,a1,b0,b1,u0,u1,n0,n1⟩:=h
 have p0:0≤n/yn1:=Int.ediv_nonneg n0 (by omega)
 have p1:n/yn1*yn1≤n:=Int.ediv_mul_le n (by omega)
 have p2:n<(n/yn1+1)*yn1:=Int.lt_ediv_add_one_mul_self n (by omega)
 have p3:(n/yn1+1)*yn1=n/yn1*yn1+yn1:=by rw [Int.add_mul,Int.one_mul]
 have p4:0≤n/yn1*yn1:=Int.mul_nonneg p0 (by omega)
 have p5:0≤n/yn1*yn0:=Int.mul_nonneg p0 b0
 refine ⟨⟨p0,?_,by omega,by omega,by omega,?_⟩,p4,p1⟩
 · rcases (by omega:n/yn1≤4294967297∨4294967298≤n/yn1) with hle | hge
   · exact hle
   · exfalso
     have:4294967298*yn1≤n/yn1*yn1:=Int.mul_le_mul_of_nonneg_right hge (by omega)
     omega
 · generalize n/yn1*yn1=A at *
   generalize n/yn1*yn0=C at *
   omega
theorem B3s {n u p:Int} (h0:0≤n*4294967296+u-p) (h1:n*4294967296+u-p<18446744073709551616) :
 IntKind.u64.wrap (IntKind.u64.wrap (IntKind.u64.wrap (n*4294967296)+u)-IntKind.u64.wrap p)=n*4294967296+u-p:=by
 rw [u64w,u64w,u64w,u64w]
 omega
theorem B3m (q yn1 yn0 y:Int) (hy:y=yn1*4294967296+yn0):q*y=(q*yn1)*4294967296+q*yn0:=by
 rw [hy,Int.mul_add,← Int.mul_assoc]
theorem D2x (y yn1 yn0 n u:Int) (s:Nat) (hy:y=yn1*4294967296+yn0) (h:A3d yn1 yn0 n u) (q1:Int) (hq1:0≤q1) (hq2:q1<4294967296) :
 ∀ (d:Nat) (q r:Int),A9p yn1 yn0 n u q r→4294967296≤r+d*2147483648→
  ∃ Q,Right yn1 yn0 n u Q∧Ev (fun k=>F0.l1 k y (s:Int) yn1 yn0 u q1 r n q) (q1*4294967296+Q,shr .u64 (n*4294967296+u-Q*y) (s:Int)):=by
 have fin:∀ Q,Right yn1 yn0 n u Q→0≤n*4294967296+u-Q*y∧n*4294967296+u-Q*y<18446744073709551616∧Q<4294967296:=by
  intro Q hQ
  have:=A9g h hQ.2.1
  have e:=B3m Q yn1 yn0 y hy
  obtain ⟨a0,a1,b0,b1,u0,u1,n0,n1⟩:=h
  obtain ⟨c0,c1,c2⟩:=hQ
  rw [e]
  generalize Q*yn1=A at *
  generalize Q*yn0=C at *
  omega
 intro d
 induction d with
 | zero=>
   intro q r t hd
   have:=t.r1
   omega
 | succ d ih=>
   intro q r t hd
   have ht0:=t.q0
   have ht1:=t.q1
   have hr0:=t.r0
   have hr1:=t.r1
   have ha0:=h.a0
   have ha1:=h.a1
   have body:∀ c:Bool,(c=true↔(4294967296≤q∨4294967296*r+u<q*yn0))→
    ∃ Q,Right yn1 yn0 n u Q∧Ev (fun k=>F0.j4 k y (s:Int) yn1 yn0 u q1 r n q c) (q1*4294967296+Q,shr .u64 (n*4294967296+u-Q*y) (s:Int)):=by
    intro c hc
    cases c with
    | true=>
      have ht:=hc.1 rfl
      have hw:IntKind.u64.wrap (r+yn1)=r+yn1:=P6 _ (by omega) (by omega)
      have hd1:=(A2s h t ht).1
      have hw2:IntKind.u64.wrap (q-1)=q-1:=P6 _ (by omega) (by omega)
      by_cases hr:4294967296≤r+yn1
      · have hR:=A7f h t ht hr
        have hf:=fin _ hR
        refine ⟨q-1,hR,I2 fun k=>?_⟩
        simp only [F0.j4]
        rw [if_pos trivial,hw,if_pos (by omega),if_pos (by omega),hw2,B3s hf.1 hf.2.1,P6 (q1*4294967296) (by omega) (by omega),P6 _ (by omega) (by omega)]
      · obtain ⟨Q,hQ,hE⟩:=ih (q-1) (r+yn1) (A7e h t ht (by omega)) (by omega)
        refine ⟨Q,hQ,Ev.step (fun k=>?_) hE⟩
        simp only [F0.j4]
        rw [if_pos trivial,hw,if_neg (by omega),hw2]
    | false=>
      have ht:¬ (4294967296≤q∨4294967296*r+u<q*yn0):=fun hh=>Bool.noConfusion (hc.2 hh)
      have hR:=A7d t (fun hh=>ht (.inr hh))
      have hf:=fin _ hR
      refine ⟨q,hR,I2 fun k=>?_⟩
      simp only [F0.j4]
      rw [if_neg (by decide),if_pos (by omega),B3s hf.1 hf.2.1,P6 (q1*4294967296) (by omega) (by omega),P6 _ (by omega) (by omega)]
   by_cases hq:q≥4294967296
   · obtain ⟨Q,hQ,hE⟩:=body true ⟨fun _=>.inl hq,fun _=>rfl⟩
     refine ⟨Q,hQ,Ev.step (fun k=>?_) hE⟩
     simp only [F0.l1]
     rw [if_pos hq]
   · obtain ⟨Q,hQ,hE⟩:=body (decide (4294967296*r+u<q*yn0)) (by rw [decide_eq_true_iff];omega)
     refine ⟨Q,hQ,Ev.step (fun k=>?_) hE⟩
     simp only [F0.l1]
     rw [if_neg hq,B7g h t hq]
theorem D2y (y yn1 yn0 n u v:Int) (s:Nat) (hy:y=yn1*4294967296+yn0) (h:A3d yn1 yn0 n u) (hv0:0≤v) (hv1:v<4294967296) :
 ∀ (d:Nat) (q r:Int),A9p yn1 yn0 n u q r→4294967296≤r+d*2147483648→
  ∃ Q1 Q0,0≤Q1∧Q1<4294967296∧0≤Q0∧Q0<4294967296∧0≤(n*4294967296+u-Q1*y)*4294967296+v-Q0*y∧(n*4294967296+u-Q1*y)*4294967296+v-Q0*y<y ∧
   Ev (fun k=>F0.l0 k y (s:Int) yn1 yn0 n u v q r) (Q1*4294967296+Q0,shr .u64 ((n*4294967296+u-Q1*y)*4294967296+v-Q0*y) (s:Int)):=by
 have fin:∀ Q,Right yn1 yn0 n u Q→∃ Q0,0≤Q∧Q<4294967296∧0≤Q0∧Q0<4294967296∧0≤(n*4294967296+u-Q*y)*4294967296+v-Q0*y∧(n*4294967296+u-Q*y)*4294967296+v-Q0*y<y ∧
  Ev (fun k=>F0.j2 k y (s:Int) yn1 yn0 n u v Q) (Q*4294967296+Q0,shr .u64 ((n*4294967296+u-Q*y)*4294967296+v-Q0*y) (s:Int)):=by
  intro Q hQ
  have hlt:=A9g h hQ.2.1
  have e:=B3m Q yn1 yn0 y hy
  obtain ⟨c0,c1,c2⟩:=hQ
  have ha0:=h.a0
  have ha1:=h.a1
  have hr0:0≤n*4294967296+u-Q*y:=by rw [e];omega
  have hr1:n*4294967296+u-Q*y<y:=by
   rw [e,hy]
   generalize Q*yn1=A at *
   generalize Q*yn0=C at *
   omega
  have hw:=B3s (n:=n) (u:=u) (p:=Q*y) hr0 (by have:=h.b1;omega)
  generalize n*4294967296+u-Q*y=m at *
  have hH:A3d yn1 yn0 m v:=⟨h.a0,h.a1,h.b0,h.b1,hv0,hv1,hr0,by omega⟩
  obtain ⟨tr,tr0,tr1⟩:=A5n hH
  obtain ⟨Q0,hQ0,hE⟩:=D2x y yn1 yn0 m v s hy hH Q c0 hlt 2 _ _ tr (by have:=tr.r0;omega)
  have hlt0:=A9g hH hQ0.2.1
  have e0:=B3m Q0 yn1 yn0 y hy
  obtain ⟨g0,g1,g2⟩:=hQ0
  refine ⟨Q0,c0,hlt,g0,hlt0,by rw [e0];omega,?_,Ev.step (fun k=>?_) hE⟩
  · rw [e0,hy]
    generalize Q0*yn1=A at *
    generalize Q0*yn0=C at *
    omega
  · have hd:Int.tdiv m yn1=m/yn1:=Int.tdiv_eq_ediv_of_nonneg hr0
    have hdr:0≤m/yn1:=tr.q0
    have hdr1:m/yn1≤4294967297:=tr.q1
    simp only [F0.j2]
    rw [if_neg (by omega),hw,hd,P6 (m/yn1) hdr (by omega),P6 (m/yn1*yn1) tr0 (by have:=h.b1;omega),P6 (m-m/yn1*yn1) (by omega) (by have:=h.b1;omega)]
 intro d
 induction d with
 | zero=>
   intro q r t hd
   have:=t.r1
   omega
 | succ d ih=>
   intro q r t hd
   have ht0:=t.q0
   have ht1:=t.q1
   have hr0:=t.r0
   have hr1:=t.r1
   have ha0:=h.a0
   have ha1:=h.a1
   have body:∀ c:Bool,(c=true↔(4294967296≤q∨4294967296*r+u<q*yn0))→
    ∃ Q1 Q0,0≤Q1∧Q1<4294967296∧0≤Q0∧Q0<4294967296∧0≤(n*4294967296+u-Q1*y)*4294967296+v-Q0*y∧(n*4294967296+u-Q1*y)*4294967296+v-Q0*y<y ∧
    Ev (fun k=>F0.j1 k y (s:Int) yn1 yn0 n u v q r c) (Q1*4294967296+Q0,shr .u64 ((n*4294967296+u-Q1*y)*4294967296+v-Q0*y) (s:Int)):=by
    intro c hc
    cases c with
    | true=>
      have ht:=hc.1 rfl
      have hw:IntKind.u64.wrap (r+yn1)=r+yn1:=P6 _ (by omega) (by omega)
      have hd1:=(A2s h t ht).1
      have hw2:IntKind.u64.wrap (q-1)=q-1:=P6 _ (by omega) (by omega)
      by_cases hr:4294967296≤r+yn1
      · obtain ⟨Q0,z0,z1,z2,z3,z4,z5,hE⟩:=fin _ (A7f h t ht hr)
        refine ⟨q-1,Q0,z0,z1,z2,z3,z4,z5,Ev.step (fun k=>?_) hE⟩
        simp only [F0.j1]
        rw [if_pos trivial,hw,if_pos (by omega),hw2]
      · obtain ⟨Q1,Q0,z0,z1,z2,z3,z4,z5,hE⟩:=ih (q-1) (r+yn1) (A7e h t ht (by omega)) (by omega)
        refine ⟨Q1,Q0,z0,z1,z2,z3,z4,z5,Ev.step (fun k=>?_) hE⟩
        simp only [F0.j1]
        rw [if_pos trivial,hw,if_neg (by omega),hw2]
    | false=>
      have ht:¬ (4294967296≤q∨4294967296*r+u<q*yn0):=fun hh=>Bool.noConfusion (hc.2 hh)
      obtain ⟨Q0,z0,z1,z2,z3,z4,z5,hE⟩:=fin _ (A7d t (fun hh=>ht (.inr hh)))
      refine ⟨q,Q0,z0,z1,z2,z3,z4,z5,Ev.step (fun k=>?_) hE⟩
      simp only [F0.j1]
      rw [if_neg (by decide)]
   by_cases hq:q≥4294967296
   · obtain ⟨Q1,Q0,z0,z1,z2,z3,z4,z5,hE⟩:=body true ⟨fun _=>.inl hq,fun _=>rfl⟩
     refine ⟨Q1,Q0,z0,z1,z2,z3,z4,z5,Ev.step (fun k=>?_) hE⟩
     simp only [F0.l0]
     rw [if_pos hq]
   · obtain ⟨Q1,Q0,z0,z1,z2,z3,z4,z5,hE⟩:=body (decide (4294967296*r+u<q*yn0)) (by rw [decide_eq_true_iff];omega)
     refine ⟨Q1,Q0,z0,z1,z2,z3,z4,z5,Ev.step (fun k=>?_) hE⟩
     simp only [F0.l0]
     rw [if_neg hq,B7g h t hq]
theorem parts (hi lo y:Int) (s:Nat) (hs:s≤63) (h0:0≤hi) (h1:hi<y) (l0:0≤lo) (l1:lo<18446744073709551616) (y1:y*2 ^ s<18446744073709551616) :
 ∃ n m:Int,Go.bits .or .u64 (shl .u64 hi (s:Int)) (shr .u64 lo (64-(s:Int)))=n∧shl .u64 lo (s:Int)=m∧0≤n∧n<y*2 ^ s∧0≤m∧m<18446744073709551616∧(hi*18446744073709551616+lo)*2 ^ s=n*18446744073709551616+m:=by
 have hp:(0:Int)<2 ^ s:=Int.pow_pos (by decide)
 have hp2:(0:Int)<2 ^ (64-s):=Int.pow_pos (by decide)
 have hpp:(2:Int) ^ (64-s)*2 ^ s=18446744073709551616:=by rw [← Int.pow_add,show 64-s+s=64 by omega];decide
 have e1:shl .u64 hi (s:Int)=hi*2 ^ s:=by
  unfold shl
  rw [Int.toNat_natCast,Nat.min_eq_left (by show s≤64;omega)]
  have a:0≤hi*2 ^ s:=Int.mul_nonneg h0 (Int.le_of_lt hp)
  have b:hi*2 ^ s≤y*2 ^ s:=Int.mul_le_mul_of_nonneg_right (by omega) (Int.le_of_lt hp)
  exact P6 _ a (by omega)
 have e2:shr .u64 lo (64-(s:Int))=lo/2 ^ (64-s):=by
  unfold shr
  rw [show (64-(s:Int)).toNat=64-s by omega,Nat.min_eq_left (by show 64-s≤64;omega)]
 have e3:shl .u64 lo (s:Int)=(lo*2 ^ s) % 18446744073709551616:=by
  unfold shl
  rw [Int.toNat_natCast,Nat.min_eq_left (by show s≤64;omega),u64w]
 have d0:0≤lo/2 ^ (64-s):=Int.ediv_nonneg l0 (Int.le_of_lt hp2)
 have d1:lo/2 ^ (64-s)<2 ^ s:=by
  refine Int.ediv_lt_of_lt_mul hp2 ?_
  rw [Int.mul_comm,hpp]
  exact l1
 have hx:0≤hi*2 ^ s:=Int.mul_nonneg h0 (Int.le_of_lt hp)
 have hx1:hi*2 ^ s+2 ^ s≤y*2 ^ s:=by
  have:(hi+1)*2 ^ s≤y*2 ^ s:=Int.mul_le_mul_of_nonneg_right (by omega) (Int.le_of_lt hp)
  rw [Int.add_mul,Int.one_mul] at this
  exact this
 have e4:Go.bits .or .u64 (hi*2 ^ s) (lo/2 ^ (64-s))=hi*2 ^ s+lo/2 ^ (64-s):=
  bits_join .u64 64 (by decide) A9s s _ _ hx (Int.mul_emod_left _ _) (by simpa using (by omega:hi*2 ^ s<18446744073709551616)) d0 d1 (by simpa using (by omega:lo/2 ^ (64-s)<18446744073709551616))
 have e5:lo*2 ^ s=(lo/2 ^ (64-s))*18446744073709551616+(lo*2 ^ s) % 18446744073709551616:=by
  have a:lo=2 ^ (64-s)*(lo/2 ^ (64-s))+lo % 2 ^ (64-s):=(Int.mul_ediv_add_emod lo (2 ^ (64-s))).symm
  have b:lo % 2 ^ (64-s)<2 ^ (64-s):=Int.emod_lt_of_pos _ hp2
  have c:0≤lo % 2 ^ (64-s):=Int.emod_nonneg _ (Int.ne_of_gt hp2)
  generalize lo/2 ^ (64-s)=t at *
  generalize lo % 2 ^ (64-s)=g at *
  have e:lo*2 ^ s=t*18446744073709551616+g*2 ^ s:=by rw [a,Int.add_mul,Int.mul_comm (2 ^ (64-s)) t,Int.mul_assoc,hpp]
  have f0:0≤g*2 ^ s:=Int.mul_nonneg c (Int.le_of_lt hp)
  have f1:g*2 ^ s<18446744073709551616:=by rw [← hpp];exact Int.mul_lt_mul_of_pos_right b hp
  generalize g*2 ^ s=x at *
  generalize lo*2 ^ s=z at *
  omega
 refine ⟨hi*2 ^ s+lo/2 ^ (64-s),(lo*2 ^ s) % 18446744073709551616,by rw [e1,e2,e4],e3,by omega,by omega,by omega,by omega,?_⟩
 rw [Int.add_mul,Int.mul_right_comm]
 generalize hi*2 ^ s=a at *
 generalize lo/2 ^ (64-s)=b at *
 generalize lo*2 ^ s=c at *
 omega
theorem D5c (hi lo y:Int) (h0:0≤hi) (h1:hi<y) (l0:0≤lo) (l1:lo<18446744073709551616) (y1:y<18446744073709551616) :
 Ev (fun k=>F0.f k hi lo y) ((hi*18446744073709551616+lo)/y,(hi*18446744073709551616+lo) % y):=by
 unfold F0.f
 by_cases hz:hi=0
 · refine F3 fun k=>?_
   rw [if_neg (by omega),if_neg (by omega),if_pos hz,hz,Int.zero_mul,Int.zero_add,Int.tdiv_eq_ediv_of_nonneg l0,Int.tmod_eq_emod_of_nonneg l0]
   have a:0≤lo/y:=Int.ediv_nonneg l0 (by omega)
   have b:lo/y≤lo:=Int.ediv_le_self _ l0
   rw [P6 _ a (by omega)]
 · obtain ⟨s,hs,ya,yb,hE⟩:=C6e y (by omega) y1
   obtain ⟨n,m,en,em,n0,n1,m0,m1,eU⟩:=parts hi lo y s hs h0 h1 l0 l1 yb
   have hp:(0:Int)<2 ^ s:=Int.pow_pos (by decide)
   have ey:shl .u64 y (s:Int)=y*2 ^ s:=by
    unfold shl
    rw [Int.toNat_natCast,Nat.min_eq_left (by show s≤64;omega)]
    exact P6 _ (by omega) yb
   have ws:IntKind.u64.wrap (s:Int)=s:=P6 _ (by omega) (by omega)
   have ws2:IntKind.u64.wrap (64-(s:Int))=64-s:=P6 _ (by omega) (by omega)
   generalize hY:y*2 ^ s=Y at *
   have hy:Y=Y/4294967296*4294967296+Y % 4294967296:=by omega
   have hH:A3d (Y/4294967296) (Y % 4294967296) n (m/4294967296):=⟨by omega,by omega,by omega,by omega,by omega,by omega,n0,by omega⟩
   obtain ⟨tr,tr0,tr1⟩:=A5n hH
   obtain ⟨Q1,Q0,a0,a1,b0,b1,r0,r1,hL⟩:=D2y Y _ _ n (m/4294967296) (m % 4294967296) s hy hH (by omega) (by omega) 2 _ _ tr (by have:=tr.r0;omega)
   have hd:Int.tdiv n (Y/4294967296)=n/(Y/4294967296):=Int.tdiv_eq_ediv_of_nonneg n0
   have hdr:0≤n/(Y/4294967296):=tr.q0
   have hdr1:n/(Y/4294967296)≤4294967297:=tr.q1
   have key:∀ k,F0.f (k+1) hi lo y=F0.l0 (k+1) Y (s:Int) (Y/4294967296) (Y % 4294967296) n (m/4294967296) (m % 4294967296) (n/(Y/4294967296)) (n-n/(Y/4294967296)*(Y/4294967296)):=by
    intro k
    unfold F0.f
    rw [if_neg (by omega),if_neg (by omega),if_neg hz,hE,Option.bind_some,ws,ws2,if_pos (by omega),if_pos (by omega),ey,if_neg (by omega),en,em,C0u Y (by omega) yb,C0u m m0 m1,hd,P6 (n/(Y/4294967296)) hdr (by omega),
     P6 (n/(Y/4294967296)*(Y/4294967296)) tr0 (by omega),P6 (n-n/(Y/4294967296)*(Y/4294967296)) (by omega) (by omega)]
   have fin:(hi*18446744073709551616+lo)/y=Q1*4294967296+Q0∧(hi*18446744073709551616+lo) % y=shr .u64 ((n*4294967296+m/4294967296-Q1*Y)*4294967296+m % 4294967296-Q0*Y) (s:Int):=by
    have e:(hi*18446744073709551616+lo)*2 ^ s=(Q1*4294967296+Q0)*Y+((n*4294967296+m/4294967296-Q1*Y)*4294967296+m % 4294967296-Q0*Y):=by
     rw [eU,Int.add_mul,Int.mul_right_comm]
     generalize Q1*Y=a at *
     generalize Q0*Y=b at *
     omega
    generalize (n*4294967296+m/4294967296-Q1*Y)*4294967296+m % 4294967296-Q0*Y=R at *
    generalize Q1*4294967296+Q0=Q at *
    generalize hi*18446744073709551616+lo=N at *
    have e2:R=(N-Q*y)*2 ^ s:=by
     rw [Int.sub_mul,e,← hY,Int.mul_assoc]
     omega
    have e3:shr .u64 R (s:Int)=N-Q*y:=by
     unfold shr
     rw [Int.toNat_natCast,Nat.min_eq_left (by show s≤64;omega),e2,Int.mul_ediv_cancel _ (Int.ne_of_gt hp)]
    have f0:0≤N-Q*y:=by
     rcases (by omega:0≤N-Q*y∨N-Q*y<0) with g | g
     · exact g
     · have:=Int.mul_neg_of_neg_of_pos g hp
       omega
    have f1:N-Q*y<y:=by
     rcases (by omega:N-Q*y<y∨y≤N-Q*y) with g | g
     · exact g
     · have:=Int.mul_le_mul_of_nonneg_right g (Int.le_of_lt hp)
       omega
    rw [e3]
    have hN:N=(N-Q*y)+y*Q:=by rw [Int.mul_comm y Q];omega
    generalize N-Q*y=z at *
    subst hN
    rw [Int.add_mul_ediv_left _ _ (by omega),Int.ediv_eq_zero_of_lt f0 f1,Int.zero_add,Int.add_mul_emod_self_left,Int.emod_eq_of_lt f0 f1]
    exact ⟨rfl,rfl⟩
   rw [fin.1,fin.2]
   obtain ⟨K,hK⟩:=hL
   refine ⟨K+1,fun k hk=>?_⟩
   obtain ⟨j,rfl⟩:∃ j,k=j+1:=⟨k-1,by omega⟩
   have:=key j
   unfold F0.f at this
   exact this.trans (hK (j+1) (by omega))
def mdOk (a b c:Int):Prop:=(0≤a∧a≤1000000000000000)∧(0≤b∧b≤1000000000000000)∧(1≤c∧c≤1000000000000000)∧a*b/c≤1000000000000000
instance (a b c:Int):Decidable (mdOk a b c):=by unfold mdOk;exact inferInstance
def mdR (a b c:Int):Int×Int×Bool:=if mdOk a b c then (a*b/c,a*b % c,true) else (0,0,false)
theorem B8p {a b c:Int} (h:¬ mdOk a b c):mdR a b c=(0,0,false):=if_neg h
theorem md_yes {a b c:Int} (h:mdOk a b c):mdR a b c=(a*b/c,a*b % c,true):=if_pos h
theorem D1q {ρ:Type} {A B C:Prop} [Decidable A] [Decidable B] [Decidable C] (f:Nat→Bool→Option ρ) (r:ρ) (hb:¬ (A∧B∧C)→Ev (fun k=>f k true) r) (hg:A→B→C→Ev (fun k=>f k false) r) :
 Ev (fun k=>if decide A=true then (if decide B=true then f k (!decide C) else f k true) else f k true) r:=by
 by_cases ha:A
 · by_cases hb2:B
   · by_cases hc:C
     · exact Ev.congr (fun k=>by rw [if_pos (decide_eq_true ha),if_pos (decide_eq_true hb2),decide_eq_true hc];rfl) (hg ha hb2 hc)
     · exact Ev.congr (fun k=>by rw [if_pos (decide_eq_true ha),if_pos (decide_eq_true hb2),decide_eq_false hc];rfl) (hb fun h=>hc h.2.2)
   · exact Ev.congr (fun k=>by rw [if_pos (decide_eq_true ha),if_neg (by rw [decide_eq_false hb2];decide)]) (hb fun h=>hb2 h.2.1)
 · exact Ev.congr (fun k=>by rw [if_neg (by rw [decide_eq_false ha];decide)]) (hb fun h=>ha h.1)
theorem mulDiv_i (a b c:Int):Ev (fun k=>L6.f k a b c) (mdR a b c):=by
 unfold L6.f
 simp only [in_i,Option.bind_some]
 have bad:∀ h:¬ mdOk a b c,Ev (fun k=>L6.j0 k a b c true) (mdR a b c):=fun h=>by
  rw [B8p h]
  exact I2 fun k=>by simp only [L6.j0];rw [if_pos trivial]
 refine D1q (fun k z=>L6.j0 k a b c z) _ (fun h=>bad fun g=>h ⟨g.1,g.2.1,g.2.2.1⟩) fun ha hb hc=>?_
 ·
  obtain ⟨a0,a1⟩:=ha
  obtain ⟨b0,b1⟩:=hb
  obtain ⟨c0,c1⟩:=hc
  have hp0:0≤a*b:=Int.mul_nonneg a0 b0
  have hp1:a*b≤1000000000000000*1000000000000000:=Int.mul_le_mul a1 b1 b0 (by decide)
  have hm:A0s.f a b=some (a*b/18446744073709551616,a*b % 18446744073709551616):=by
   unfold A0s.f
   rw [D2w a b a0 (by omega) b0 (by omega),u64w]
  have e:∀ k,L6.j0 (k+1) a b c false=if a*b/18446744073709551616≥c then some (0,0,false) else (F0.f k (a*b/18446744073709551616) (a*b % 18446744073709551616) c).bind fun z=>(if z.1>1000000000000000 then (some (0,0,false)) else (some (wrap64 z.1,wrap64 z.2,true))):=by
   intro k
   simp only [L6.j0]
   rw [if_neg (by decide),P6 a a0 (by omega),P6 b b0 (by omega),P6 c (by omega) (by omega),hm,Option.bind_some]
  have hq0:0≤a*b/c:=Int.ediv_nonneg hp0 (by omega)
  have hr0:0≤a*b % c:=Int.emod_nonneg _ (by omega)
  have hr1:a*b % c<c:=Int.emod_lt_of_pos _ (by omega)
  refine Ev.step e ?_
  by_cases hh:a*b/18446744073709551616≥c
  · have hno:¬ mdOk a b c:=fun h=>by
     have h4:=h.2.2.2
     have h5:18446744073709551616≤a*b/c:=by
      rw [Int.le_ediv_iff_mul_le (by omega)]
      omega
     omega
    rw [B8p hno]
    exact F3 fun k=>if_pos hh
  · refine Ev.congr (fun k=>if_neg hh) ?_
    have hd:=D5c (a*b/18446744073709551616) (a*b % 18446744073709551616) c (by omega) (by omega) (by omega) (by omega) (by omega)
    rw [show a*b/18446744073709551616*18446744073709551616+a*b % 18446744073709551616=a*b by omega] at hd
    refine B8 hd (F3 fun k=>?_)
    by_cases hq:a*b/c≤1000000000000000
    · rw [md_yes ⟨⟨a0,a1⟩,⟨b0,b1⟩,⟨c0,c1⟩,hq⟩,if_neg (by show ¬ a*b/c>_;omega)]
      show some (wrap64 (a*b/c),wrap64 (a*b % c),true)=_
      rw [U4 _ (by omega) (by omega),U4 _ (by omega) (by omega)]
    · rw [B8p (fun h=>hq h.2.2.2),if_pos (by show a*b/c>_;omega)]
theorem some_s (x lo:Int):J9.f x lo=some (decide (lo≤x∧x≤1000000000000000)):=by
 unfold J9.f
 rw [in_s]
 rfl
theorem D1x (a:Int) (i:Nat) (h0:0≤a) (h1:a≤1000000000000000) (hi:i≤63):Go.bits .and .i64 (shr .i64 a (i:Int)) 1=a/2 ^ i % 2:=by
 have e:shr .i64 a (i:Int)=a/2 ^ i:=by
  unfold shr
  rw [Int.toNat_natCast,Nat.min_eq_left (by show i≤64;omega)]
 rw [e]
 have hp:(0:Int)<2 ^ i:=Int.pow_pos (by decide)
 have d0:0≤a/2 ^ i:=Int.ediv_nonneg h0 (Int.le_of_lt hp)
 have d1:a/2 ^ i≤a:=Int.ediv_le_self _ h0
 exact bits_mask .i64 63 (by decide) (fun n a b=>by
  rw [IntKind.wrap_i64];have:(2:Int) ^ 63=9223372036854775808:=by decide
  omega) 1 (by decide) _ d0 (by
   have:(2:Int) ^ 63=9223372036854775808:=by decide
   omega)
theorem sl0 (a b c:Int) (a0:0≤a) (a1:a≤1000000000000000) (b0:0≤b) (b1:b≤1000000000000000) (c0:1≤c) (c1:c≤1000000000000000) :
 ∀ (m:Nat) (q r:Int),m≤51→0≤r→r<c→0≤q→q≤1000000000000000→q*c+r=a/2 ^ m*b→
  Ev (fun k=>F2.l0 k a b c q r ((m:Int)-1)) (if a*b/c≤1000000000000000 then (a*b/c,a*b % c,true) else (0,0,false)):=by
 intro m
 induction m with
 | zero=>
   intro q r _ r0 r1 q0 q1 e
   rw [show a/2 ^ 0=a by rw [Int.pow_zero,Int.ediv_one]] at e
   have hN:a*b=r+c*q:=by rw [← e,Int.mul_comm c q];omega
   have hd:a*b/c=q:=by rw [hN,Int.add_mul_ediv_left _ _ (by omega),Int.ediv_eq_zero_of_lt r0 r1,Int.zero_add]
   have hm:a*b % c=r:=by rw [hN,Int.add_mul_emod_self_left,Int.emod_eq_of_lt r0 r1]
   rw [hd,hm,if_pos q1]
   exact I2 fun k=>by simp only [F2.l0];rw [if_neg (by omega)]
 | succ m ih=>
   intro q r hm r0 r1 q0 q1 e
   have hp:(0:Int)<2 ^ m:=Int.pow_pos (by decide)
   have hA:a/2 ^ (m+1)=a/2 ^ m/2:=by rw [Int.pow_succ,Int.ediv_ediv_of_nonneg (Int.le_of_lt hp)]
   have d0:0≤a/2 ^ m:=Int.ediv_nonneg a0 (Int.le_of_lt hp)
   have d1:a/2 ^ m≤a:=Int.ediv_le_self _ a0
   rw [hA] at e
   have hbit:=D1x a m a0 a1 (by omega)
   -- too great a quotient stays too great
   have big:∀ q' r':Int,q'*c+r'=a/2 ^ m*b→0≤r'→1000000000000000<q'→¬ a*b/c≤1000000000000000:=by
    intro q' r' e' r0' hq' hle
    have h1:a/2 ^ m*b≤a*b:=Int.mul_le_mul_of_nonneg_right d1 b0
    have h2:q'≤a*b/c:=by
     rw [Int.le_ediv_iff_mul_le (by omega)]
     omega
    omega
   -- the doubled pair
   obtain ⟨q2,r2,hw,z0,z1,y0,y1,e2⟩:∃ q2 r2:Int,(∀ k,F2.l0 (k+1) a b c q r ((m+1:Nat)-1:Int)=F2.j2 k a b c q2 r2 (m:Int))∧0≤r2∧r2<c∧0≤q2∧q2≤2000000000000001∧q2*c+r2=2*(a/2 ^ m/2*b):=by
    have w1:wrap64 (2*r)=2*r:=U4 _ (by omega) (by omega)
    have w2:wrap64 (2*q)=2*q:=U4 _ (by omega) (by omega)
    have hi:(((m+1:Nat):Int)-1)=(m:Int):=by omega
    by_cases h:2*r≥c
    · refine ⟨2*q+1,2*r-c,fun k=>?_,by omega,by omega,by omega,by omega,?_⟩
      · rw [hi]
        simp only [F2.l0]
        rw [if_pos (by omega),w1,if_pos h,w2,U4 (2*q+1) (by omega) (by omega),U4 (2*r-c) (by omega) (by omega)]
      · rw [Int.add_mul,Int.one_mul,Int.mul_assoc,← e]
        omega
    · refine ⟨2*q,2*r,fun k=>?_,by omega,by omega,by omega,by omega,?_⟩
      · rw [hi]
        simp only [F2.l0]
        rw [if_pos (by omega),w1,if_neg h,w2]
      · rw [Int.mul_assoc,← e]
        omega
   refine Ev.step hw ?_
   have hodd:a/2 ^ m*b=2*(a/2 ^ m/2*b)+a/2 ^ m % 2*b:=by
    have:a/2 ^ m=2*(a/2 ^ m/2)+a/2 ^ m % 2:=by omega
    generalize a/2 ^ m=x at *
    conv=>lhs;rw [this,Int.add_mul,Int.mul_assoc]
   have go:∀ q3 r3:Int,0≤r3→r3<c→0≤q3→q3*c+r3=a/2 ^ m*b→(f:Nat→Option (Int×Int×Bool))→(∀ k,f k=if q3>1000000000000000 then some (0,0,false) else F2.l0 k a b c q3 r3 ((m:Int)-1))→Ev f (if a*b/c≤1000000000000000 then (a*b/c,a*b % c,true) else (0,0,false)):=by
    intro q3 r3 x0 x1 x2 e3 f hf
    by_cases hq:q3>1000000000000000
    · rw [if_neg (big q3 r3 e3 x0 (by omega))]
      exact F3 fun k=>by rw [hf,if_pos hq]
    · exact Ev.congr (fun k=>by rw [hf,if_neg hq]) (ih q3 r3 (by omega) x0 x1 x2 (by omega) e3)
   have wm:wrap64 ((m:Int)-1)=(m:Int)-1:=U4 _ (by omega) (by omega)
   by_cases hb:a/2 ^ m % 2=1
   · have t0:0≤b/c:=Int.ediv_nonneg b0 (by omega)
     have t1:b/c≤b:=Int.ediv_le_self _ b0
     have t2:0≤b % c:=Int.emod_nonneg _ (by omega)
     have t3:b % c<c:=Int.emod_lt_of_pos _ (by omega)
     have t4:b/c*c+b % c=b:=by have:=Int.mul_ediv_add_emod b c;rw [Int.mul_comm];exact this
     have td:Int.tdiv b c=b/c:=Int.tdiv_eq_ediv_of_nonneg b0
     have tm:Int.tmod b c=b % c:=Int.tmod_eq_emod_of_nonneg b0
     rw [hb,Int.one_mul] at hodd
     have w1:wrap64 (r2+b % c)=r2+b % c:=U4 _ (by omega) (by omega)
     have w2:wrap64 (b/c)=b/c:=U4 _ (by omega) (by omega)
     have w3:wrap64 (q2+b/c)=q2+b/c:=U4 _ (by omega) (by omega)
     have w4:wrap64 (q2+b/c+1)=q2+b/c+1:=U4 _ (by omega) (by omega)
     by_cases h:r2+b % c≥c
     · have w5:wrap64 (r2+b % c-c)=r2+b % c-c:=U4 _ (by omega) (by omega)
       refine Ev.step (fun k=>rfl) (go (q2+b/c+1) (r2+b % c-c) (by omega) (by omega) (by omega) ?_ _ fun k=>?_)
       · rw [Int.add_mul,Int.add_mul,Int.one_mul,hodd,← e2]
         omega
       · simp only [F2.j2]
         rw [if_pos (by omega),hbit,if_pos hb,if_neg (by omega),tm,td,w1,if_pos h,w2,w3,w4,w5,wm]
     · refine Ev.step (fun k=>rfl) (go (q2+b/c) (r2+b % c) (by omega) (by omega) (by omega) ?_ _ fun k=>?_)
       · rw [Int.add_mul,hodd,← e2]
         omega
       · simp only [F2.j2]
         rw [if_pos (by omega),hbit,if_pos hb,if_neg (by omega),tm,td,w1,if_neg h,w2,w3,wm]
   · have hb0:a/2 ^ m % 2=0:=by omega
     rw [hb0,Int.zero_mul,Int.add_zero] at hodd
     refine Ev.step (fun k=>rfl) (go q2 r2 z0 z1 y0 (by rw [e2,hodd]) _ fun k=>?_)
     simp only [F2.j2]
     rw [if_pos (by omega),hbit,if_neg hb,wm]
theorem mulDiv_s (a b c:Int):Ev (fun k=>F2.f k a b c) (mdR a b c):=by
 unfold F2.f
 simp only [some_s,Option.bind_some]
 have bad:∀ h:¬ mdOk a b c,Ev (fun k=>F2.j0 k a b c true) (mdR a b c):=fun h=>by
  rw [B8p h]
  exact I2 fun k=>by simp only [F2.j0];rw [if_pos trivial]
 refine D1q (fun k z=>F2.j0 k a b c z) _ (fun h=>bad fun g=>h ⟨g.1,g.2.1,g.2.2.1⟩) fun ha hb hc=>?_
 ·
  refine Ev.step (f:=fun k=>F2.l0 k a b c 0 0 50) (fun k=>by simp only [F2.j0];rw [if_neg (by decide)]) ?_
  have h:=sl0 a b c ha.1 ha.2 hb.1 hb.2 hc.1 hc.2 51 0 0 (Nat.le_refl _) (by omega) (by omega) (by omega) (by omega) (by
   rw [show a/2 ^ 51=0 from Int.ediv_eq_zero_of_lt ha.1 (by
    have:(2:Int) ^ 51=2251799813685248:=by decide
    omega)]
   simp)
  have e:mdR a b c=if a*b/c≤1000000000000000 then (a*b/c,a*b % c,true) else (0,0,false):=by
   by_cases hq:a*b/c≤1000000000000000
   · rw [md_yes ⟨ha,hb,hc,hq⟩,if_pos hq]
   · rw [B8p (fun h=>hq h.2.2.2),if_neg hq]
  rw [e]
  exact h
end Go.Proofs.YtmfgajbkcnlkcaaGreat.A2
namespace Go.Proofs.YtmfgajbkcnlkcaaGreat.E5
open Go Go.RowKit Go.Proofs.YtmfgajbkcnlkcaaGreat.P Go.Proofs.YtmfgajbkcnlkcaaGreatW.PrintWords Go.Proofs.YtmfgajbkcnlkcaaGreatW.PrintLast Go.Proofs.YtmfgajbkcnlkcaaGreat.EV Go.Proofs.YtmfgajbkcnlkcaaGreat.I1 Go.Proofs.YtmfgajbkcnlkcaaGreat.N1 Go.Proofs.YtmfgajbkcnlkcaaGreat.E1 Go.Proofs.YtmfgajbkcnlkcaaGreat.E2 Go.Proofs.YtmfgajbkcnlkcaaGreat.E3
def Key (x y:SL):Prop:=x.f0=y.f0∧x.f1=y.f1∧x.f2=y.f2
theorem tri (x y:SL):Lt x y∨Lt y x∨Key x y:=by
 unfold Lt Key
 omega
theorem Lt.not {x y:SL} (h:Lt x y):¬Lt y x:=by
 unfold Lt at *
 omega
theorem Lt.nkey {x y:SL} (h:Lt x y):¬Key x y:=by
 unfold Lt Key at *
 omega
theorem Lt.nkey' {x y:SL} (h:Lt x y):¬Key y x:=by
 unfold Lt Key at *
 omega
theorem C5x:∀ (l:List SL) (y:SL),Chn (some y) l→(y::l).Pairwise Lt
 | [],y,_=>by simp
 | x::xs,y,h=>by
   have ih:=C5x xs x h.2
   refine List.pairwise_cons.2 ⟨fun z hz=>?_,ih⟩
   exact Chn.all h z hz
theorem B4o {l:List SL} (h:Chn none l):l.Pairwise Lt:=by
 cases l with
 | nil=>exact List.Pairwise.nil
 | cons x xs=>exact C5x xs x h
theorem B3u:∀ {l:List SL},l.Pairwise Lt→∀ x∈l,∀ y∈l,Key x y→x=y
 | [],_,x,hx=>by cases hx
 | z::zs,h,x,hx=>by
   intro y hy hk
   have h2:=List.pairwise_cons.1 h
   rcases List.mem_cons.1 hx with e1 | hx1
   · rcases List.mem_cons.1 hy with e2 | hy1
     · rw [e1,e2]
     · rw [e1] at hk
       exact absurd hk (Lt.nkey (h2.1 y hy1))
   · rcases List.mem_cons.1 hy with e2 | hy1
     · rw [e2] at hk
       exact absurd hk (Lt.nkey' (h2.1 x hx1))
     · exact B3u h2.2 x hx1 y hy1 hk
theorem A1k:∀ (xs ys:List SL),(P0 xs ys).Perm (xs++ys)
 | [],ys=>by rw [A3w];exact List.Perm.refl _
 | x::xs,[]=>by rw [A1l,List.append_nil]
 | x::xs,y::ys=>by
   rw [P0]
   split
   · exact (A1k xs (y::ys)).cons x
   · refine ((A1k (x::xs) ys).cons y).trans ?_
     exact (List.perm_middle (l₁:=x::xs) (l₂:=ys) (a:=y)).symm
termination_by xs ys=>xs.length+ys.length
theorem A8v:∀ (xs ys:List SL),xs.Pairwise Lt→ys.Pairwise Lt→(∀ x∈xs,∀ y∈ys,¬Key x y)→(P0 xs ys).Pairwise Lt
 | [],ys,_,h,_=>by rw [A3w];exact h
 | x::xs,[],h,_,_=>by rw [A1l];exact h
 | x::xs,y::ys,hx,hy,hk=>by
   have hx2:=List.pairwise_cons.1 hx
   have hy2:=List.pairwise_cons.1 hy
   rw [P0]
   split
   · rename_i hl
     refine List.pairwise_cons.2 ⟨fun z hz=>?_,A8v xs (y::ys) hx2.2 hy fun a ha b hb=>hk a (List.mem_cons_of_mem _ ha) b hb⟩
     rcases List.mem_append.1 ((A1k xs (y::ys)).mem_iff.1 hz) with h | h
     · exact hx2.1 z h
     · rcases List.mem_cons.1 h with rfl | h
       · exact hl
       · exact hl.trans (hy2.1 z h)
   · rename_i hl
     have hl2:Lt y x:=by
      rcases tri x y with h | h | h
      · exact absurd h hl
      · exact h
      · exact absurd h (hk x (List.mem_cons_self ..) y (List.mem_cons_self ..))
     refine List.pairwise_cons.2 ⟨fun z hz=>?_,A8v (x::xs) ys hx hy2.2 fun a ha b hb=>hk a ha b (List.mem_cons_of_mem _ hb)⟩
     rcases List.mem_append.1 ((A1k (x::xs) ys).mem_iff.1 hz) with h | h
     · rcases List.mem_cons.1 h with rfl | h
       · exact hl2
       · exact hl2.trans (hx2.1 z h)
     · exact hy2.1 z h
termination_by xs ys=>xs.length+ys.length
theorem cmp_iff (x y:SL):A9.cmp x y<0↔(x.f0<y.f0∨(x.f0=y.f0∧(x.f1<y.f1∨(x.f1=y.f1∧x.f2<y.f2)))):=by
 unfold A9.cmp
 by_cases h0:x.f0<y.f0
 · rw [if_pos h0];omega
 · rw [if_neg h0]
   by_cases h1:y.f0<x.f0
   · rw [if_pos h1];omega
   · rw [if_neg h1]
     by_cases h2:x.f1<y.f1
     · rw [if_pos h2];omega
     · rw [if_neg h2]
       by_cases h3:y.f1<x.f1
       · rw [if_pos h3];omega
       · rw [if_neg h3]
         by_cases h4:x.f2<y.f2
         · rw [if_pos h4];omega
         · rw [if_neg h4]
           by_cases h5:y.f2<x.f2
           · rw [if_pos h5];omega
           · rw [if_neg h5];omega
theorem C8q {m s:List SL} (hp:m.Perm s) (hs:s.Pairwise Lt):C5.srt m=s:=by
 unfold C5.srt
 have hle:∀ x y:SL,(!decide (A9.cmp y x<0))=true↔¬Lt y x:=fun x y=>by
  have h:=cmp_iff y x
  have h2:(A9.cmp y x<0)↔Lt y x:=h
  rw [Bool.not_eq_true',decide_eq_false_iff_not,h2]
 have h1:=List.pairwise_mergeSort (le:=fun x y=>!decide (A9.cmp y x<0)) (fun a b c h g=>by
  rw [hle] at *
  unfold Lt at *
  omega) (fun a b=>by
  rw [Bool.or_eq_true,hle,hle]
  unfold Lt
  omega) m
 refine List.Perm.eq_of_pairwise (le:=fun x y=>(!decide (A9.cmp y x<0))=true) (fun a b ha hb h g=>?_) h1 (hs.imp fun h=>(hle _ _).2 (Lt.not h)) ((List.mergeSort_perm _ _).trans hp)
 rw [hle] at h g
 have ha2:a∈s:=(((List.mergeSort_perm m _).trans hp).mem_iff).1 ha
 refine B3u hs a ha2 b hb ?_
 rcases tri a b with k | k | k
 · exact absurd k g
 · exact absurd k h
 · exact k
theorem C8g (l:List SL) (a b:Int) (m s:List SL) (hl:l.length≤1048576) (hm:m.length≤1048576) (hw:l.Pairwise Lt) (hp:m.Perm s) (hs:s.Pairwise Lt) (ho:∀ x∈s,x.f0=a∧x.f1=b) :
 C5.f l a b m=some (P0 (outL a b l) s)∧(P0 (outL a b l) s).Pairwise Lt:=by
 have hr:C5.rest l a b=outL a b l:=rfl
 have hrp:(outL a b l).Pairwise Lt:=hw.filter _
 have hk:∀ x∈outL a b l,∀ y∈s,¬Key x y:=fun x hx y hy k=>by
  have h1:=(List.mem_filter.1 hx).2
  have h2:=ho y hy
  unfold Key at k
  unfold Own at h1
  rw [Bool.not_eq_true',decide_eq_false_iff_not] at h1
  exact h1 ⟨k.1.trans h2.1,k.2.1.trans h2.2⟩
 have hmp:=A8v _ _ hrp hs hk
 have hpp:(outL a b l++m).Perm (P0 (outL a b l) s):=(hp.append_left _).trans (A1k _ _).symm
 refine ⟨?_,hmp⟩
 unfold C5.f
 rw [hr,if_pos ⟨by omega,by omega,fun x hx y hy k=>by
  have:=B3u hmp x (hpp.mem_iff.1 hx) y (hpp.mem_iff.1 hy) k
  rw [this]
  exact ⟨rfl,rfl⟩⟩,C8q hpp hmp]
end Go.Proofs.YtmfgajbkcnlkcaaGreat.E5
namespace Go.Proofs.YtmfgajbkcnlkcaaGreat.E6
open Go Go.RowKit Go.Proofs.YtmfgajbkcnlkcaaGreat.P Go.Proofs.YtmfgajbkcnlkcaaGreatW.PrintWords Go.Proofs.YtmfgajbkcnlkcaaGreatW.PrintLast Go.Proofs.YtmfgajbkcnlkcaaGreat.EV Go.Proofs.YtmfgajbkcnlkcaaGreat.I1 Go.Proofs.YtmfgajbkcnlkcaaGreat.N1 Go.Proofs.YtmfgajbkcnlkcaaGreat.E1 Go.Proofs.YtmfgajbkcnlkcaaGreat.E2 Go.Proofs.YtmfgajbkcnlkcaaGreat.E3 Go.Proofs.YtmfgajbkcnlkcaaGreat.E4 Go.Proofs.YtmfgajbkcnlkcaaGreat.E5
def paid (x:SL) (p:Int):Int:=(A2.mdR x.f4 p x.f3).1
theorem A4m {x:SL} (h:E1.Form x) {p:Int} (h0:0≤p) (h1:p≤x.f3):paid x p=x.f4*p/x.f3∧0≤paid x p∧paid x p≤x.f4:=by
 unfold E1.Form at h
 have e1:0≤x.f4*p/x.f3:=Int.ediv_nonneg (Int.mul_nonneg (by omega) h0) (by omega)
 have e2:x.f4*p/x.f3≤x.f4:=Int.ediv_le_of_le_mul (by omega) (Int.mul_le_mul_of_nonneg_left h1 (by omega))
 have e:paid x p=x.f4*p/x.f3:=by
  unfold paid
  rw [A2.md_yes ⟨⟨by omega,by omega⟩,⟨by omega,by omega⟩,⟨by omega,by omega⟩,by omega⟩]
 rw [e]
 exact ⟨rfl,e1,e2⟩
theorem A8o {x:SL} (h:E1.Form x):paid x x.f3=x.f4:=by
 have h2:=h
 unfold E1.Form at h2
 rw [(A4m h (by omega) (Int.le_refl _)).1]
 exact Int.mul_ediv_cancel _ (by omega)
theorem B0k {x:SL} (h:E1.Form x):paid x 0=0:=by
 have h2:=h
 unfold E1.Form at h2
 rw [(A4m h (Int.le_refl _) (by omega)).1]
 simp
def cut (x:SL) (p:Int):SL:=⟨x.f0,x.f1,x.f2,x.f3-p,x.f4-paid x p⟩
theorem C4s {x:SL} (h:E1.Form x):cut x 0=x:=by
 unfold cut
 rw [B0k h,Int.sub_zero,Int.sub_zero]
def left:List SL→Int→List SL
 | [],_=>[]
 | x::xs,q=>if x.f3≤q then left xs (q-x.f3) else cut x q::xs
def cost:List SL→Int→Int
 | [],_=>0
 | x::xs,q=>if x.f3≤q then x.f4+cost xs (q-x.f3) else paid x q
def tot:List SL→Int
 | []=>0
 | x::xs=>x.f3+tot xs
def all4:List SL→Int
 | []=>0
 | x::xs=>x.f4+all4 xs
theorem A1m:∀ {l:List SL},(∀ x∈l,E1.Form x)→left l 0=l∧cost l 0=0
 | [],_=>⟨rfl,rfl⟩
 | x::xs,h=>by
   have hx:=h x (List.mem_cons_self ..)
   have h2:=hx
   unfold E1.Form at h2
   simp only [left,cost]
   rw [if_neg (by omega),if_neg (by omega),C4s hx,B0k hx]
   exact ⟨rfl,rfl⟩
theorem A5f:∀ (l:List SL) (q:Int),(left l q).length≤l.length
 | [],_=>Nat.le_refl _
 | x::xs,q=>by
   have ih:=A5f xs (q-x.f3)
   simp only [left]
   split
   · simp only [List.length_cons]
     omega
   · exact Nat.le_refl _
theorem B5h {a b:Int}:∀ {l:List SL} {q:Int},(∀ x∈l,x.f0=a∧x.f1=b)→∀ x∈left l q,x.f0=a∧x.f1=b
 | [],q,_,x,hx=>by cases hx
 | y::ys,q,h,x,hx=>by
   simp only [left] at hx
   split at hx
   · exact B5h (fun z hz=>h z (List.mem_cons_of_mem _ hz)) x hx
   · rcases List.mem_cons.1 hx with rfl | hx
     · exact h y (List.mem_cons_self ..)
     · exact h x (List.mem_cons_of_mem _ hx)
theorem A8x {R:SL→SL→Prop} (hR:∀ x p z,R x z→R (cut x p) z):∀ {l:List SL} {q:Int},l.Pairwise R→(left l q).Pairwise R
 | [],_,_=>List.Pairwise.nil
 | x::xs,q,h=>by
   have h2:=List.pairwise_cons.1 h
   simp only [left]
   split
   · exact A8x hR h2.2
   · exact List.pairwise_cons.2 ⟨fun z hz=>hR _ _ _ (h2.1 z hz),h2.2⟩
theorem C5c (l:List SL) (hl:l.length≤120) (hf:∀ x∈l,E1.Form x) (q:Int) (q0:0≤q) (q1:q≤1000000000000000):Ev (fun k=>H1.f k l q) (left l q,cost l q):=by
 unfold H1.f
 have key:∀ (n i:Nat) (q c:Int) (out:List SL),l.length-i=n→i≤l.length→0≤q→q≤1000000000000000→0≤c→c≤i*1000000000000000→out.length≤i→
  Ev (fun k=>H1.l0 k q c out l (l.length:Int) (i:Int)) (out++left (l.drop i) q,c+cost (l.drop i) q):=by
  intro n
  induction n with
  | zero=>
    intro i q c out hn hi _ _ _ _ _
    have e:l.drop i=[]:=List.drop_eq_nil_of_le (by omega)
    rw [e]
    simp only [left,cost,List.append_nil,Int.add_zero]
    exact I2 fun k=>by
     simp only [H1.l0]
     rw [if_neg (by omega)]
  | succ n ih=>
    intro i q c out hn hi q0 q1 c0 c1 ho
    have h1:i<l.length:=by omega
    obtain ⟨x,hx⟩:∃ x,l.getD i z110=x:=⟨_,rfl⟩
    have e:l.drop i=x::l.drop (i+1):=by rw [← hx];exact L9 z110 l i h1
    have hm:x∈l:=List.mem_of_mem_drop (i:=i) (by rw [e];exact List.mem_cons_self ..)
    have hfx:=hf x hm
    have hF:=hfx
    unfold E1.Form at hF
    have hfd:∀ y∈l.drop (i+1),E1.Form y:=fun y hy=>hf y (List.mem_of_mem_drop hy)
    rw [e]
    simp only [left,cost]
    by_cases hq:x.f3≤q
    · rw [if_pos hq,if_pos hq]
      have hmn:mn q x.f3=x.f3:=by unfold mn;split<;>omega
      have h2:=ih (i+1) (q-x.f3) (c+x.f4) out (by omega) (by omega) (by omega) (by omega) (by omega) (by omega) (by omega)
      rw [show c+(x.f4+cost (l.drop (i+1)) (q-x.f3))=c+x.f4+cost (l.drop (i+1)) (q-x.f3) by omega]
      refine Ev.step (f:=fun k=>(L6.f k x.f4 x.f3 x.f3).bind fun t=>H1.l0 k (wrap64 (q-x.f3)) (wrap64 (c+t.1)) out l (l.length:Int) ((i+1:Nat):Int)) (fun k=>?_) (B8 (A2.mulDiv_i x.f4 x.f3 x.f3) ?_)
      · show H1.l0 (k+1) q c out l (l.length:Int) (i:Int)=_
        simp only [H1.l0]
        rw [if_pos (by omega),if_pos (by omega),if_pos (by omega),J5 h1 (by omega)]
        simp only [rdL,hx,hmn]
        simp only [Int.lt_irrefl,if_false]
      · have hp:(A2.mdR x.f4 x.f3 x.f3).1=x.f4:=A8o hfx
        refine Ev.congr (fun k=>?_) h2
        show H1.l0 k (wrap64 (q-x.f3)) (wrap64 (c+(A2.mdR x.f4 x.f3 x.f3).1)) out l (l.length:Int) ((i+1:Nat):Int)=_
        rw [hp,S8 (q-x.f3) (by omega) (by omega),S8 (c+x.f4) (by omega) (by omega)]
    · rw [if_neg hq,if_neg hq]
      have hmn:mn q x.f3=q:=by unfold mn;split<;>omega
      have hp:=A4m hfx q0 (by omega)
      have h2:=ih (i+1) 0 (c+paid x q) (out++[cut x q]) (by omega) (by omega) (by omega) (by omega) (by omega) (by omega) (by rw [List.length_append,List.length_singleton];omega)
      rw [(A1m hfd).1,(A1m hfd).2,Int.add_zero,List.append_assoc] at h2
      refine Ev.step (f:=fun k=>(L6.f k x.f4 q x.f3).bind fun t=>H1.l0 k (wrap64 (q-q)) (wrap64 (c+t.1)) (out++[⟨x.f0,x.f1,x.f2,wrap64 (x.f3-q),wrap64 (x.f4-t.1)⟩]) l (l.length:Int) ((i+1:Nat):Int)) (fun k=>?_) (B8 (A2.mulDiv_i x.f4 q x.f3) ?_)
      · show H1.l0 (k+1) q c out l (l.length:Int) (i:Int)=_
        simp only [H1.l0]
        rw [if_pos (by omega),if_pos (by omega),if_pos (by omega),J5 h1 (by omega)]
        simp only [rdL,hx,hmn]
        simp only [show q<x.f3 from by omega,show out.length<3518437208883 from by omega,if_true]
      · refine Ev.congr (fun k=>?_) h2
        show H1.l0 k (wrap64 (q-q)) (wrap64 (c+paid x q)) (out++[(⟨x.f0,x.f1,x.f2,wrap64 (x.f3-q),wrap64 (x.f4-paid x q)⟩:SL)]) l (l.length:Int) ((i+1:Nat):Int)=_
        rw [S8 (q-q) (by omega) (by omega),S8 (c+paid x q) (by omega) (by omega),S8 (x.f3-q) (by omega) (by omega),S8 (x.f4-paid x q) (by omega) (by omega),Int.sub_self]
        rfl
 have h:=key _ 0 q 0 [] rfl (Nat.zero_le _) q0 q1 (Int.le_refl _) (by omega) (Nat.le_refl _)
 rw [List.drop_zero,List.nil_append,Int.zero_add] at h
 exact h
theorem B4s (A B:List SL) (x:SL):A4 (A++x::B) (A.length:Int)=x:=by
 rw [rdL]
 simp
theorem B7o (A B rest:List SL) (x:SL) (way q c:Int) (hl:A.length+B.length≤200) (hx:E1.Form x) (q0:0<q) (q1:q≤1000000000000000) (c0:0≤c) (c1:c≤1000000000000000000) (R:List SL×Int×Int)
 (h:Ev (fun k=>D2.l0 k (if x.f3≤q then q-x.f3 else 0) way (if x.f3≤q then A++B else A++cut x q::B) rest (if x.f3≤q then c+x.f4 else c+paid x q)) R) :
 Ev (fun k=>D2.j2 k q way (A++x::B) rest c (A.length:Int)) R:=by
 have hF:=hx
 unfold E1.Form at hF
 have hlen:(A++x::B).length=A.length+B.length+1:=by simp;omega
 have e1:wrap64 ((A.length:Int)+1)=((A.length+1:Nat):Int):=J5 (n:=A.length+1) (Nat.lt_succ_self _) (by omega)
 have g1:(0:Int)≤((A.length+1:Nat):Int):=Int.natCast_nonneg _
 have g2:((A.length+1:Nat):Int)≤((A++x::B).length:Int):=by
  rw [hlen]
  exact Int.ofNat_le.2 (Nat.add_le_add_right (Nat.le_add_right _ _) 1)
 obtain ⟨p,hp⟩:∃ p,p=(if x.f3≤q then x.f3 else q):=⟨_,rfl⟩
 have p0:0<p:=by rw [hp];split<;>omega
 have p1:p≤x.f3:=by rw [hp];split<;>omega
 have p2:p≤q:=by rw [hp];split<;>omega
 have hmin:A0o.f x.f3 q=some p:=by
  unfold A0o.f
  rw [hp]
  by_cases h1:x.f3<q
  · rw [if_pos h1,if_pos (by omega)]
  · by_cases h2:x.f3=q
    · rw [if_neg h1,if_pos (by omega),h2]
    · rw [if_neg h1,if_neg (by omega)]
 have hpd:=A4m hx (Int.le_of_lt p0) p1
 have s1:(A++x::B).set A.length (⟨x.f0,x.f1,x.f2,x.f3-p,x.f4⟩:SL)=A++(⟨x.f0,x.f1,x.f2,x.f3-p,x.f4⟩:SL)::B:=by simp
 have s2:(A++(⟨x.f0,x.f1,x.f2,x.f3-p,x.f4⟩:SL)::B).set A.length (cut x p)=A++cut x p::B:=by simp
 have tn:((A.length:Nat):Int).toNat=A.length:=Int.toNat_natCast _
 have tn1:((A.length+1:Nat):Int).toNat=A.length+1:=Int.toNat_natCast _
 have a1:(0:Int)≤(A.length:Int):=Int.natCast_nonneg _
 have a2:(A.length:Int)<((A++x::B).length:Int):=by rw [hlen];omega
 have a3:(A.length:Int)≤((A++x::B).length:Int):=Int.le_of_lt a2
 have b1:wrap64 (x.f3-p)=x.f3-p:=S8 (x.f3-p) (by omega) (by omega)
 have b2:wrap64 (x.f4-paid x p)=x.f4-paid x p:=S8 (x.f4-paid x p) (by omega) (by omega)
 have b3:wrap64 (q-p)=q-p:=S8 (q-p) (by omega) (by omega)
 have b4:wrap64 (c+paid x p)=c+paid x p:=S8 (c+paid x p) (by omega) (by omega)
 have d1:([]:List SL).length+((A++cut x p::B).take A.length).length<3518437208883:=by simp;omega
 have d2:([]++(A++cut x p::B).take A.length).length+((A++cut x p::B).drop (A.length+1)).length<3518437208883:=by simp;omega
 have d3:([]++(A++cut x p::B).take A.length)++(A++cut x p::B).drop (A.length+1)=A++B:=by simp
 have step:∀ k,D2.j2 (k+1) q way (A++x::B) rest c (A.length:Int)=(F2.f k x.f4 p x.f3).bind fun t=>if t.1=paid x p then (if x.f3-p=0 then D2.l0 k (q-p) way (A++B) rest (c+paid x p) else D2.l0 k (q-p) way (A++cut x p::B) rest (c+paid x p)) else D2.j2 (k+1) q way (A++x::B) rest c (A.length:Int):=by
  clear hl hF hlen q0 q1 c0 c1 p0 p1 p2 hpd hp
  intro k
  cases hmd:F2.f k x.f4 p x.f3 with
  | none=>
    simp only [D2.j2]
    rw [if_pos a1,if_pos a2,B4s,hmin,Option.bind_some,hmd]
    rfl
  | some t=>
    rw [Option.bind_some]
    by_cases ht:t.1=paid x p
    · rw [if_pos ht]
      simp only [D2.j2]
      rw [if_pos a1,if_pos a2,B4s,hmin,Option.bind_some,hmd,Option.bind_some,ht]
      rw [Option.bind_some,Option.bind_some,tn,b1,b2,b3,b4,s1,B4s]
      rw [show (⟨x.f0,x.f1,x.f2,x.f3-p,x.f4-paid x p⟩:SL)=cut x p from rfl,s2,B4s]
      show (if x.f3-p=0 then _ else _)=_
      by_cases hz:x.f3-p=0
      · rw [if_pos hz,if_pos hz,Option.bind_some,if_pos a3,Option.bind_some,if_pos d1,Option.bind_some]
        rw [e1,if_pos g1,if_pos g2,tn1,Option.bind_some,if_pos d2,d3]
      · rw [if_neg hz,if_neg hz]
    · rw [if_neg ht]
 refine Ev.step (f:=fun k=>(F2.f k x.f4 p x.f3).bind fun t=>if t.1=paid x p then (if x.f3-p=0 then D2.l0 k (q-p) way (A++B) rest (c+paid x p) else D2.l0 k (q-p) way (A++cut x p::B) rest (c+paid x p)) else D2.j2 (k+1) q way (A++x::B) rest c (A.length:Int)) step (B8 (A2.mulDiv_s x.f4 p x.f3) (Ev.congr (fun k=>if_pos rfl) ?_))
 by_cases h1:x.f3≤q
 · have ep:p=x.f3:=by rw [hp,if_pos h1]
   rw [if_pos h1,if_pos h1,if_pos h1] at h
   rw [ep,A8o hx]
   exact Ev.congr (fun k=>if_pos (by omega)) h
 · have ep:p=q:=by rw [hp,if_neg h1]
   rw [if_neg h1,if_neg h1,if_neg h1] at h
   rw [ep,Int.sub_self]
   exact Ev.congr (fun k=>if_neg (by omega)) h
theorem B1c (own rest:List SL) (way c:Int) (hl:own.length+rest.length≤3000000):Ev (fun k=>D2.l0 k 0 way own rest c) (P0 rest own,c,0):=by
 refine Ev.step (f:=fun k=>(E0.f k rest own).bind fun t=>some (t,c,0)) (fun k=>?_) (B8 (B3z rest own (by omega)) (F3 fun k=>rfl))
 show D2.l0 (k+1) 0 way own rest c=_
 simp only [D2.l0]
 rw [if_neg (by omega)]
theorem C0b (rest:List SL) (hr:rest.length≤1000000) (way:Int) (hw:way≠2):∀ (l:List SL) (q c:Int),l.length≤120→(∀ x∈l,E1.Form x)→0≤q→q≤tot l→q≤1000000000000000→0≤c→c+l.length*1000000000000000≤1000000000000000000→
 Ev (fun k=>D2.l0 k q way l rest c) (P0 rest (left l q),c+cost l q,0)
 | [],q,c,_,_,q0,q1,_,_,_=>by
   have e:q=0:=by simp only [tot] at q1;omega
   rw [e]
   simp only [left,cost,Int.add_zero]
   exact B1c [] rest way c (by simp;omega)
 | x::xs,q,c,hl,hf,q0,q1,q2,c0,c1=>by
   have hx:=hf x (List.mem_cons_self ..)
   have hxs:∀ y∈xs,E1.Form y:=fun y hy=>hf y (List.mem_cons_of_mem _ hy)
   have hF:=hx
   unfold E1.Form at hF
   simp only [List.length_cons] at hl c1
   simp only [tot] at q1
   by_cases hz:q=0
   · rw [hz,(A1m hf).1,(A1m hf).2,Int.add_zero]
     exact B1c (x::xs) rest way c (by simp;omega)
   · refine Ev.step (f:=fun k=>D2.j2 k q way (x::xs) rest c 0) (fun k=>?_) (B7o [] xs rest x way q c (by simp;omega) hx (by omega) q2 c0 (by omega) _ ?_)
     · show D2.l0 (k+1) q way (x::xs) rest c=_
       simp only [D2.l0]
       rw [if_pos (by omega),if_neg hw]
     · simp only [left,cost]
       by_cases h1:x.f3≤q
       · have ih:=C0b rest hr way hw xs (q-x.f3) (c+x.f4) (by omega) hxs (by omega) (by omega) (by omega) (by omega) (by omega)
         rw [if_pos h1,if_pos h1,if_pos h1,if_pos h1,if_pos h1,List.nil_append,show c+(x.f4+cost xs (q-x.f3))=c+x.f4+cost xs (q-x.f3) by omega]
         exact ih
       · rw [if_neg h1,if_neg h1,if_neg h1,if_neg h1,if_neg h1,List.nil_append]
         exact B1c (cut x q::xs) rest way (c+paid x q) (by simp;omega)
theorem C5p (rest:List SL) (hr:rest.length≤1000000):∀ (l:List SL) (q c:Int),l.length≤120→(∀ x∈l,E1.Form x)→0≤q→q≤tot l→q≤1000000000000000→0≤c→c+l.length*1000000000000000≤1000000000000000000→
 Ev (fun k=>D2.l0 k q 2 l.reverse rest c) (P0 rest (left l q).reverse,c+cost l q,0)
 | [],q,c,_,_,q0,q1,_,_,_=>by
   have e:q=0:=by simp only [tot] at q1;omega
   rw [e]
   simp only [left,cost,Int.add_zero]
   exact B1c [] rest 2 c (by simp;omega)
 | x::xs,q,c,hl,hf,q0,q1,q2,c0,c1=>by
   have hx:=hf x (List.mem_cons_self ..)
   have hxs:∀ y∈xs,E1.Form y:=fun y hy=>hf y (List.mem_cons_of_mem _ hy)
   have hF:=hx
   unfold E1.Form at hF
   simp only [List.length_cons] at hl c1
   simp only [tot] at q1
   by_cases hz:q=0
   · rw [hz,(A1m hf).1,(A1m hf).2,Int.add_zero]
     exact B1c (x::xs).reverse rest 2 c (by simp;omega)
   · rw [List.reverse_cons]
     have hj:=B7o xs.reverse [] rest x 2 q c (by simp;omega) hx (by omega) q2 c0 (by omega) (P0 rest (left (x::xs) q).reverse,c+cost (x::xs) q,0) (by
      simp only [left,cost]
      by_cases h1:x.f3≤q
      · have ih:=C5p rest hr xs (q-x.f3) (c+x.f4) (by omega) hxs (by omega) (by omega) (by omega) (by omega) (by omega)
        rw [if_pos h1,if_pos h1,if_pos h1,if_pos h1,if_pos h1,List.append_nil,show c+(x.f4+cost xs (q-x.f3))=c+x.f4+cost xs (q-x.f3) by omega]
        exact ih
      · rw [if_neg h1,if_neg h1,if_neg h1,if_neg h1,if_neg h1,List.reverse_cons]
        exact B1c (xs.reverse++[cut x q]) rest 2 (c+paid x q) (by simp;omega))
     refine Ev.step (f:=fun k=>D2.j2 k q 2 (xs.reverse++x::[]) rest c (xs.reverse.length:Int)) (fun k=>?_) hj
     show D2.l0 (k+1) q 2 (xs.reverse++[x]) rest c=_
     simp only [D2.l0]
     rw [if_pos (by omega),if_pos trivial]
     congr 1
     rw [List.length_append,List.length_singleton]
     unfold wrap64
     simp
     omega
end Go.Proofs.YtmfgajbkcnlkcaaGreat.E6
namespace Go.Proofs.YtmfgajbkcnlkcaaGreat.E7
open Go Go.RowKit Go.Proofs.YtmfgajbkcnlkcaaGreat.P Go.Proofs.YtmfgajbkcnlkcaaGreatW.PrintWords Go.Proofs.YtmfgajbkcnlkcaaGreatW.PrintLast Go.Proofs.YtmfgajbkcnlkcaaGreat.EV Go.Proofs.YtmfgajbkcnlkcaaGreat.I1 Go.Proofs.YtmfgajbkcnlkcaaGreat.N1 Go.Proofs.YtmfgajbkcnlkcaaGreat.E1 Go.Proofs.YtmfgajbkcnlkcaaGreat.E2 Go.Proofs.YtmfgajbkcnlkcaaGreat.E3 Go.Proofs.YtmfgajbkcnlkcaaGreat.E4 Go.Proofs.YtmfgajbkcnlkcaaGreat.E5 Go.Proofs.YtmfgajbkcnlkcaaGreat.E6
theorem D2r (l:List SL) (hl:l.length≤1048576):L5.f l=some l.reverse:=by
 unfold L5.f
 rw [if_pos (by omega)]
theorem A9y:∀ (m:List SL) (q c:Int),(∀ x∈m,E1.Form x)→0≤q→0≤c→q+m.length*1000000000000000≤9000000000000000000→c+m.length*1000000000000000≤9000000000000000000→
 A9.sum3 m q=q+tot m∧A9.sum4 m c=c+all4 m
 | [],q,c,_,_,_,_,_=>by simp [A9.sum3,A9.sum4,tot,all4]
 | x::xs,q,c,hf,h0,h1,h2,h3=>by
   have hx:=hf x (List.mem_cons_self ..)
   unfold E1.Form at hx
   simp only [List.length_cons] at h2 h3
   have ih:=A9y xs (q+x.f3) (c+x.f4) (fun y hy=>hf y (List.mem_cons_of_mem _ hy)) (by omega) (by omega) (by omega) (by omega)
   simp only [A9.sum3,A9.sum4,List.foldl_cons,tot,all4] at ih ⊢
   rw [S8 (q+x.f3) (by omega) (by omega),S8 (c+x.f4) (by omega) (by omega),ih.1,ih.2]
   omega
theorem B7c (a b:Int):∀ l:List SL,tot (ofL a b l)=qty a b l∧all4 (ofL a b l)=cst a b l
 | []=>⟨rfl,rfl⟩
 | x::xs=>by
   have ih:=B7c a b xs
   unfold ofL at *
   by_cases h:x.f0=a∧x.f1=b
   · rw [List.filter_cons_of_pos (by unfold Own;exact decide_eq_true h)]
     simp only [tot,all4,qty,cst]
     rw [if_pos h,if_pos h,ih.1,ih.2]
     exact ⟨rfl,rfl⟩
   · rw [List.filter_cons_of_neg (by unfold Own;rw [decide_eq_false h];decide)]
     simp only [qty,cst]
     rw [if_neg h,if_neg h,ih.1,ih.2]
     omega
theorem B7d:∀ (l m:List SL),tot (l++m)=tot l+tot m∧all4 (l++m)=all4 l+all4 m
 | [],m=>by simp [tot,all4]
 | x::xs,m=>by
   have ih:=B7d xs m
   simp only [List.cons_append,tot,all4]
   omega
theorem A8g:∀ l:List SL,tot l.reverse=tot l∧all4 l.reverse=all4 l
 | []=>⟨rfl,rfl⟩
 | x::xs=>by
   have ih:=A8g xs
   have h:=B7d xs.reverse [x]
   rw [List.reverse_cons,h.1,h.2,ih.1,ih.2]
   simp only [tot,all4]
   omega
def Y6 (own:List SL):SL:=⟨(own.getD 0 z110).f0,(own.getD 0 z110).f1,(own.getD 0 z110).f2,tot own,all4 own⟩
def src (w:Int) (own:List SL):List SL:=if w=1 then own else if w=2 then own.reverse else [Y6 own]
def tk (w:Int) (m:List SL):List SL:=if w=2 then m.reverse else m
def takeR (l:List SL) (a b q w:Int):List SL×Int×Int:=
 if A9.ok l=true∧(1≤q∧q≤1000000000000000)∧(1≤w∧w≤3) then (if tot (ofL a b l)<q then (l,0,2) else (P0 (outL a b l) (tk w (left (src w (ofL a b l)) q)),cost (src w (ofL a b l)) q,0)) else ([],0,1)
structure Own' (a b:Int) (own:List SL):Prop where
 len:own.length≤120
 form:∀ x∈own,E1.Form x
 key:∀ x∈own,x.f0=a∧x.f1=b
 pw:own.Pairwise Lt
 tot1:tot own≤1000000000000000
 all1:all4 own≤1000000000000000
theorem B8c {l:List SL} (h:E1.Right l) (a b:Int):Own' a b (ofL a b l) where
 len:=by have:=of_len a b l;have:=h.1;omega
 form x hx:=h.2.1 x (List.mem_filter.1 hx).1
 key x hx:=of_decide_eq_true (List.mem_filter.1 hx).2
 pw:=(B4o h.2.2.1).filter _
 tot1:=by rw [(B7c a b l).1];exact (h.2.2.2 a b).1.2
 all1:=by rw [(B7c a b l).2];exact (h.2.2.2 a b).2.2
theorem B5z:∀ {m:List SL},(∀ y∈m,E1.Form y)→0≤all4 m∧0≤tot m
 | [],_=>⟨Int.le_refl _,Int.le_refl _⟩
 | z::zs,hm=>by
   have h4:=hm z (List.mem_cons_self ..)
   have h5:=B5z (m:=zs) fun y hy=>hm y (List.mem_cons_of_mem _ hy)
   unfold E1.Form at h4
   simp only [all4,tot]
   omega
theorem A4h {a b:Int} {own:List SL} (h:Own' a b own) (h0:0<tot own):E1.Form (Y6 own)∧(Y6 own).f0=a∧(Y6 own).f1=b:=by
 have hp:=B5z h.form
 cases own with
 | nil=>simp only [tot] at h0;omega
 | cons x xs=>
   have hx:=h.form x (List.mem_cons_self ..)
   have hk:=h.key x (List.mem_cons_self ..)
   have h1:=h.tot1
   have h2:=h.all1
   unfold E1.Form No at *
   have e:(x::xs).getD 0 z110=x:=rfl
   unfold Y6
   simp only [e]
   omega
theorem C5e {a b:Int} {own:List SL} (h:Own' a b own) (h0:0<tot own) (w:Int) :
 (src w own).length≤120∧(∀ x∈src w own,E1.Form x)∧(∀ x∈src w own,x.f0=a∧x.f1=b)∧tot (src w own)=tot own∧all4 (src w own)=all4 own:=by
 unfold src
 split
 · exact ⟨h.len,h.form,h.key,rfl,rfl⟩
 · split
   · exact ⟨by rw [List.length_reverse];exact h.len,fun x hx=>h.form x (List.mem_reverse.1 hx),fun x hx=>h.key x (List.mem_reverse.1 hx),(A8g own).1,(A8g own).2⟩
   · have hw:=A4h h h0
     refine ⟨by simp,fun x hx=>?_,fun x hx=>?_,by simp only [tot];unfold Y6;simp only [];omega,by simp only [all4];unfold Y6;simp only [];omega⟩
     · rw [List.mem_singleton.1 hx]
       exact hw.1
     · rw [List.mem_singleton.1 hx]
       exact hw.2
theorem B3l (w:Int) (m:List SL):m.Perm (tk w m):=by
 unfold tk
 split
 · exact (List.reverse_perm m).symm
 · exact List.Perm.refl _
theorem D2l {a b:Int} {own:List SL} (h:Own' a b own) (w q:Int):(tk w (left (src w own) q)).Pairwise Lt:=by
 unfold tk src
 by_cases h1:w=1
 · rw [if_pos h1,if_neg (by omega)]
   exact A8x (fun x p z hz=>hz) h.pw
 · rw [if_neg h1]
   by_cases h2:w=2
   · rw [if_pos h2,if_pos h2]
     refine List.pairwise_reverse.2 (A8x (R:=fun x y=>Lt y x) (fun x p z hz=>hz) (List.pairwise_reverse.2 ?_))
     exact h.pw
   · rw [if_neg h2,if_neg h2]
     exact A8x (fun x p z hz=>hz) (List.pairwise_singleton _ _)
theorem C8l {a b:Int} {own:List SL} (h:Own' a b own) (h0:0<tot own) (w q:Int):∀ x∈tk w (left (src w own) q),x.f0=a∧x.f1=b:=fun x hx=>
 B5h (C5e h h0 w).2.2.1 x ((B3l w _).mem_iff.2 hx)
theorem B8o (own:List SL) (q:Int) (h:q≤tot own):left [Y6 own] q=(if tot own=q then [] else [cut (Y6 own) q]):=by
 have e:(Y6 own).f3=tot own:=rfl
 simp only [left]
 by_cases h1:tot own=q
 · rw [if_pos (by omega),if_pos h1]
 · rw [if_neg (by omega),if_neg h1]
theorem B0o {own:List SL} (hf:E1.Form (Y6 own)) (q:Int) (h:q≤tot own):cost [Y6 own] q=(A2.mdR (all4 own) q (tot own)).1:=by
 have e:(Y6 own).f3=tot own:=rfl
 have e4:(Y6 own).f4=all4 own:=rfl
 simp only [cost]
 by_cases h1:tot own=q
 · have:=A8o hf
   unfold paid at this
   rw [e,e4] at this
   rw [if_pos (by omega),← h1,this,e4]
   omega
 · rw [if_neg (by omega)]
   rfl
theorem B8d {own:List SL} (h:0<tot own):0<own.length:=by
 cases own with
 | nil=>simp only [tot] at h;omega
 | cons x xs=>simp
theorem C9f {a b:Int} {own:List SL} (h:Own' a b own) (q:Int) (h0:0<q) (h1:q≤tot own):Ev (fun k=>U6.f k own q) (left [Y6 own] q,cost [Y6 own] q):=by
 have hw:=A4h h (by omega)
 have hs:=A9y own 0 0 h.form (by omega) (by omega) (by have:=h.len;omega) (by have:=h.len;omega)
 have hn:=B8d (own:=own) (by omega)
 have hp:=A4m hw.1 (p:=q) (by omega) h1
 have hW:=hw.1
 unfold E1.Form at hW
 have e3:(Y6 own).f3=tot own:=rfl
 have e4:(Y6 own).f4=all4 own:=rfl
 have ep:paid (Y6 own) q=(A2.mdR (all4 own) q (tot own)).1:=rfl
 rw [e3,e4] at hW
 rw [e4,ep] at hp
 unfold U6.f
 refine B8 (sums_i own (by have:=h.len;omega)) ?_
 rw [hs.1,hs.2,Int.zero_add,Int.zero_add]
 refine B8 (A2.mulDiv_i (all4 own) q (tot own)) (F3 fun k=>?_)
 rw [B8o own q h1,B0o hw.1 q h1]
 show (if tot own=q then _ else _)=_
 by_cases hq:tot own=q
 · rw [if_pos hq,if_pos hq]
 · rw [if_neg hq,if_neg hq,if_pos (by omega),S8 (tot own-q) (by omega) (by omega),S8 (all4 own-(A2.mdR (all4 own) q (tot own)).1) (by omega) (by omega)]
   have e0:A4 own 0=own.getD 0 z110:=rdL own 0
   rw [e0]
   rfl
theorem C9e {a b:Int} {own:List SL} (h:Own' a b own) (q:Int) (h0:0<q) (h1:q≤tot own):Ev (fun k=>X9.f k own q) (left [Y6 own] q,cost [Y6 own] q):=by
 have hw:=A4h h (by omega)
 have hs:=A9y own 0 0 h.form (by omega) (by omega) (by have:=h.len;omega) (by have:=h.len;omega)
 have hn:=B8d (own:=own) (by omega)
 have hp:=A4m hw.1 (p:=q) (by omega) h1
 have hW:=hw.1
 unfold E1.Form at hW
 have e3:(Y6 own).f3=tot own:=rfl
 have e4:(Y6 own).f4=all4 own:=rfl
 have ep:paid (Y6 own) q=(A2.mdR (all4 own) q (tot own)).1:=rfl
 rw [e3,e4] at hW
 rw [e4,ep] at hp
 unfold X9.f
 refine B8 (qty_s own (by have:=h.len;omega)) (B8 (D1u own (by have:=h.len;omega)) ?_)
 rw [hs.1,hs.2,Int.zero_add,Int.zero_add]
 refine B8 (A2.mulDiv_s (all4 own) q (tot own)) (F3 fun k=>?_)
 rw [B8o own q h1,B0o hw.1 q h1]
 show (if tot own=q then _ else _)=_
 by_cases hq:tot own=q
 · rw [if_pos hq,if_pos hq]
 · rw [if_neg hq,if_neg hq,if_pos (by omega),S8 (tot own-q) (by omega) (by omega),S8 (all4 own-(A2.mdR (all4 own) q (tot own)).1) (by omega) (by omega)]
   have e0:A4 own 0=own.getD 0 z110:=rdL own 0
   rw [e0]
   rfl
theorem take_s (l:List SL) (a b q w:Int) (hl:l.length≤1048576):Ev (fun k=>D2.f k l a b q w) (takeR l a b q w):=by
 unfold D2.f takeR
 have bad:Ev (fun k=>D2.j0 k l a b q w true) (([]:List SL),(0:Int),(1:Int)):=I2 fun k=>by
  simp only [D2.j0]
  rw [if_pos trivial]
 refine B8 (lotsOk_s l) ?_
 by_cases h:A9.ok l=true
 · refine Ev.congr (fun k=>by rw [if_pos h,E1.some_s,Option.bind_some]) ?_
   by_cases hq:1≤q∧q≤1000000000000000
   · refine Ev.congr (fun k=>by rw [if_pos (decide_eq_true hq),in_s,Option.bind_some]) ?_
     by_cases hw:1≤w∧w≤3
     · rw [if_pos ⟨h,hq,hw⟩]
       have hR:=(ok_iff l).1 h
       have hO:=B8c hR a b
       obtain ⟨own,ho⟩:∃ own,own=ofL a b l:=⟨_,rfl⟩
       rw [← ho] at hO ⊢
       have hs:=A9y own 0 0 hO.form (by omega) (by omega) (by have:=hO.len;omega) (by have:=hO.len;omega)
       have hol:=C6u a b l
       have hlen:=hO.len
       have h120:=hR.1
       have hz0:([]:List SL).length+l.length<3518437208883:=by simp;omega
       refine Ev.step (f:=fun k=>(I6.f k l a b).bind fun t=>(N7.f k t.1).bind fun n=>if n<q then some (([]:List SL)++l,0,2) else if w=3 then (X9.f k t.1 q).bind fun u=>(E0.f k t.2 u.1).bind fun m=>some (m,u.2,0) else D2.l0 k q w t.1 t.2 0) (fun k=>?_) ?_
       · rw [decide_eq_true hw]
         simp only [D2.j0]
         rw [if_neg (by decide)]
         congr 1
         funext t
         congr 1
         funext n
         rw [Option.bind_some,if_pos hz0]
       · refine B8 (split_s l a b (by omega)) ?_
         rw [← ho]
         refine B8 (qty_s own (by omega)) ?_
         rw [hs.1,Int.zero_add]
         by_cases ht:tot own<q
         · rw [if_pos ht]
           exact F3 fun k=>if_pos ht
         · rw [if_neg ht]
           refine Ev.congr (fun k=>if_neg ht) ?_
           by_cases h3:w=3
           · have e1:src w own=[Y6 own]:=by unfold src;rw [if_neg (by omega),if_neg (by omega)]
             have e2:∀ m,tk w m=m:=fun m=>by unfold tk;rw [if_neg (by omega)]
             rw [e1,e2]
             refine Ev.congr (fun k=>if_pos h3) ?_
             refine B8 (C9e hO q (by omega) (by omega)) (B8 (B3z _ _ ?_) (F3 fun k=>rfl))
             have:=A5f [Y6 own] q
             simp only [List.length_singleton] at this
             show (outL a b l).length+(left [Y6 own] q).length≤3000000
             omega
           · refine Ev.congr (fun k=>if_neg h3) ?_
             by_cases h2:w=2
             · have e1:src w own=own.reverse:=by unfold src;rw [if_neg (by omega),if_pos h2]
               have e2:∀ m,tk w m=m.reverse:=fun m=>by unfold tk;rw [if_pos h2]
               have hj:=C5p (outL a b l) (by omega) own.reverse q 0 (by rw [List.length_reverse];omega) (fun x hx=>hO.form x (List.mem_reverse.1 hx)) (by omega) (by rw [(A8g own).1];omega) (by omega) (by omega) (by rw [List.length_reverse];omega)
               rw [List.reverse_reverse,Int.zero_add] at hj
               rw [e1,e2,h2]
               exact hj
             · have e1:src w own=own:=by unfold src;rw [if_pos (by omega)]
               have e2:∀ m,tk w m=m:=fun m=>by unfold tk;rw [if_neg h2]
               have hj:=C0b (outL a b l) (by omega) w h2 own q 0 (by omega) hO.form (by omega) (by omega) (by omega) (by omega) (by omega)
               rw [Int.zero_add] at hj
               rw [e1,e2]
               exact hj
     · rw [if_neg fun g=>hw g.2.2]
       exact Ev.congr (fun k=>by rw [decide_eq_false hw];rfl) bad
   · rw [if_neg fun g=>hq g.2.1]
     exact Ev.congr (fun k=>by rw [if_neg (by rw [decide_eq_false hq];decide)]) bad
 · rw [if_neg fun g=>h g.1]
   exact Ev.congr (fun k=>if_neg h) bad
theorem take_r (l:List SL) (a b q w:Int) (hl:l.length≤1048576):Ev (fun k=>L8.f k l a b q w) (takeR l a b q w):=by
 unfold L8.f takeR
 have bad:Ev (fun k=>L8.j0 k l a b q w true) (([]:List SL),(0:Int),(1:Int)):=I2 fun k=>by
  simp only [L8.j0]
  rw [if_pos trivial]
 have okf:A9.f l=some (A9.ok l):=by
  unfold A9.f
  rw [if_pos (by omega)]
 by_cases h:A9.ok l=true
 · refine Ev.congr (fun k=>by rw [okf,Option.bind_some,if_pos h,in_i,Option.bind_some]) ?_
   by_cases hq:1≤q∧q≤1000000000000000
   · refine Ev.congr (fun k=>by rw [if_pos (decide_eq_true hq),in_i,Option.bind_some]) ?_
     by_cases hw:1≤w∧w≤3
     · rw [if_pos ⟨h,hq,hw⟩]
       have hR:=(ok_iff l).1 h
       have hO:=B8c hR a b
       have hf:F4.f l a b=some (ofL a b l):=by
        unfold F4.f
        rw [if_pos (by omega)]
        rfl
       obtain ⟨own,ho⟩:∃ own,own=ofL a b l:=⟨_,rfl⟩
       rw [← ho] at hO hf ⊢
       have hs:=A9y own 0 0 hO.form (by omega) (by omega) (by have:=hO.len;omega) (by have:=hO.len;omega)
       have hlen:=hO.len
       have c1:J1.f l=some l:=by
        unfold J1.f
        rw [Option.bind_some,if_pos (by simp;omega),List.nil_append]
       refine Ev.step (f:=fun k=>(H3.f k own).bind fun t=>if t.1<q then some (l,0,2) else if w=1 then (H1.f k own q).bind fun u=>(C5.f l a b u.1).bind fun m=>some (m,u.2,0) else if w=2 then (L5.f own).bind fun r=>(H1.f k r q).bind fun u=>(C5.f l a b u.1).bind fun m=>some (m,u.2,0) else if w=3 then (U6.f k own q).bind fun u=>(C5.f l a b u.1).bind fun m=>some (m,u.2,0) else (C5.f l a b ([]:List SL)).bind fun m=>some (m,0,0)) (fun k=>?_) ?_
       · rw [decide_eq_true hw]
         simp only [L8.j0]
         rw [if_neg (by decide),hf,Option.bind_some,c1,Option.bind_some]
       · refine B8 (sums_i own (by omega)) ?_
         rw [hs.1,hs.2,Int.zero_add,Int.zero_add]
         by_cases ht:tot own<q
         · rw [if_pos ht]
           exact F3 fun k=>if_pos ht
         · rw [if_neg ht]
           refine Ev.congr (fun k=>if_neg ht) ?_
           have h0:0<tot own:=by omega
           have hm:(left (src w own) q).length≤1048576:=by
            have:=A5f (src w own) q
            have:=(C5e hO h0 w).1
            omega
           have hwi:=(C8g l a b (left (src w own) q) (tk w (left (src w own) q)) hl hm (B4o hR.2.2.1) (B3l w _) (D2l hO w q) (C8l hO h0 w q)).1
           have fin:∀ u:List SL×Int,u=(left (src w own) q,cost (src w own) q)→Ev (fun _:Nat=>(C5.f l a b u.1).bind fun m=>some (m,u.2,(0:Int))) (P0 (outL a b l) (tk w (left (src w own) q)),cost (src w own) q,0):=fun u hu=>by
            rw [hu]
            exact F3 fun k=>by rw [hwi,Option.bind_some]
           by_cases h1:w=1
           · have e1:src w own=own:=by unfold src;rw [if_pos h1]
             refine Ev.congr (fun k=>if_pos h1) (B8 (C5c own (by omega) hO.form q (by omega) (by omega)) (fin _ (by rw [e1])))
           · refine Ev.congr (fun k=>if_neg h1) ?_
             by_cases h2:w=2
             · have e1:src w own=own.reverse:=by unfold src;rw [if_neg (by omega),if_pos h2]
               refine Ev.congr (fun k=>if_pos h2) (B8 (F3 fun k=>D2r own (by omega)) (B8 (C5c own.reverse (by rw [List.length_reverse];omega) (fun x hx=>hO.form x (List.mem_reverse.1 hx)) q (by omega) (by omega)) (fin _ (by rw [e1]))))
             · have e1:src w own=[Y6 own]:=by unfold src;rw [if_neg (by omega),if_neg h2]
               refine Ev.congr (fun k=>(if_neg h2).trans (if_pos (by omega))) (B8 (C9f hO q (by omega) (by omega)) (fin _ (by rw [e1])))
     · rw [if_neg fun g=>hw g.2.2]
       exact Ev.congr (fun k=>by rw [decide_eq_false hw];rfl) bad
   · rw [if_neg fun g=>hq g.2.1]
     exact Ev.congr (fun k=>by rw [if_neg (by rw [decide_eq_false hq];decide)]) bad
 · rw [if_neg fun g=>h g.1]
   exact Ev.congr (fun k=>by rw [okf,Option.bind_some,if_neg h]) bad
theorem take_len (l:List SL) (a b q w:Int):(takeR l a b q w).1.length≤l.length+1:=by
 unfold takeR
 split
 · rename_i h
   have hR:=(ok_iff l).1 h.1
   have hO:=B8c hR a b
   split
   · exact Nat.le_succ _
   · rename_i ht
     show (P0 _ _).length≤_
     rw [A2l,← (B3l w _).length_eq]
     have h1:=A5f (src w (ofL a b l)) q
     have h2:(src w (ofL a b l)).length≤(ofL a b l).length+1:=by
      unfold src
      split
      · omega
      · split
        · rw [List.length_reverse];omega
        · simp
     have h3:=(List.filter_append_perm (Own a b) l).length_eq
     rw [List.length_append] at h3
     have h4:(ofL a b l).length+(outL a b l).length=l.length:=h3
     omega
 · exact Nat.zero_le _
end Go.Proofs.YtmfgajbkcnlkcaaGreat.E7
namespace Go.Proofs.YtmfgajbkcnlkcaaGreat.BI
open Go Go.RowKit Go.Proofs.YtmfgajbkcnlkcaaGreat.P Go.Proofs.YtmfgajbkcnlkcaaGreatW.PrintWords Go.Proofs.YtmfgajbkcnlkcaaGreatW.PrintLast Go.Proofs.YtmfgajbkcnlkcaaGreat.EV Go.Proofs.YtmfgajbkcnlkcaaGreat.BC Go.Proofs.YtmfgajbkcnlkcaaGreat.C1 Go.Proofs.YtmfgajbkcnlkcaaGreat.C2
def W4:LA→List Int
 | []=>[]
 | x::l=>if x.f1=1 then W4 l else x.f0::W4 l
theorem B3n (A:LA) (i:Nat) (hi:i<A.length):W4 (A.drop i)=if (A.getD i z80).f1=1 then W4 (A.drop (i+1)) else (A.getD i z80).f0::W4 (A.drop (i+1)):=by
 rw [L9 z80 A i hi];rfl
theorem A7i:∀ A:LA,(W4 A).length≤A.length
 | []=>Nat.le_refl 0
 | x::l=>by
   have:=A7i l
   unfold W4
   split<;>simp only [List.length_cons]<;>omega
theorem A5r (A:LA) (i:Nat) (hi:i<A.length) (s:List Int):(if (A.getD i z80).f1=1 then s else s++[(A.getD i z80).f0])++W4 (A.drop (i+1))=s++W4 (A.drop i):=by
 rw [B3n A i hi]
 split<;>simp
theorem C6o (A:LA) (I:LI) (B:LB) (L:LL) (T:LT) (d:Int) (mA:A.length≤1048576):Ev (fun k=>M6.f k A I B L T d) (W4 A):=by
 unfold M6.f
 have h:=S1 (fun k (s:List Int) i=>M6.l0 k s i A I B L T d) A.length (fun i s=>s++W4 (A.drop i)) (fun i s=>s.length≤i)
  (fun s hs=>I2 fun k=>by
    simp only [M6.l0]
    rw [if_neg (by omega)]
    simp [W4])
  (fun i s hi hs=>by
    refine .inr ⟨if (A.getD i z80).f1=1 then s else s++[(A.getD i z80).f0],?_,A5r A i hi s,fun k=>?_⟩
    · split
      · omega
      · simp;omega
    · simp only [M6.l0]
      rw [if_pos (by omega),if_pos (by omega),J5 hi (by omega)]
      simp only [rdA]
      by_cases h7:(A.getD i z80).f1=1
      · rw [if_pos h7,if_pos h7]
      · rw [if_neg h7,if_neg h7,if_pos (by omega)]) A.length 0 [] (by omega) (by omega) (by simp)
 simpa using h
def C3v (c:Int):Int:=if c=0 then 0 else if c=3 then 5 else if c=4 then 8 else if c=5 then 7 else 1
theorem B7w (c:Int):R8.f c=some (C3v c):=by
 unfold R8.f C3v
 split
 · rfl
 · split
   · rfl
   · split
     · rfl
     · split<;>rfl
def C3u (p:LB×Int):Bool×LB×Int:=if p.2=0 then (true,p.1,C3v p.2) else (false,[],C3v p.2)
theorem C8s (A:LA) (I:LI) (B:LB) (L:LL) (T:LT) (legs:List S93) (d:Int) (mA:A.length≤1048576) (mB:B.length≤1048576):Ev (fun k=>R3.l0 k d A I B L T legs (A.length:Int) 0 []) (C3u (B5.postB B legs (W4 A))):=by
 have h:=S1 (fun k (s:List Int) i=>R3.l0 k d A I B L T legs (A.length:Int) i s) A.length (fun i s=>C3u (B5.postB B legs (s++W4 (A.drop i)))) (fun i s=>s.length≤i)
  (fun s hs=>by
    have e:s++W4 (A.drop A.length)=s:=by simp [W4]
    rw [e]
    refine Ev.step (f:=fun k=>(D9.f k B legs s).bind fun r=>if r.2=0 then (R8.f r.2).bind fun c=>some (true,r.1,c) else (R8.f r.2).bind fun c=>some (false,[],c)) (fun k=>?_) (B8 (B5.post_i B legs s mB (by omega)) (F3 fun k=>?_))
    · simp only [R3.l0]
      rw [if_neg (by omega)]
    · unfold C3u
      split
      · rw [B7w];rfl
      · rw [B7w];rfl)
  (fun i s hi hs=>by
    refine .inr ⟨if (A.getD i z80).f1=1 then s else s++[(A.getD i z80).f0],?_,by rw [A5r A i hi s],fun k=>?_⟩
    · split
      · omega
      · simp;omega
    · show R3.l0 (k+1) d A I B L T legs (A.length:Int) (i:Int) s=_
      simp only [R3.l0]
      rw [if_pos (by omega),if_pos (by omega),if_pos (by omega),J5 hi (by omega)]
      simp only [rdA]
      by_cases h7:(A.getD i z80).f1=1
      · rw [if_pos h7,if_pos h7]
      · rw [if_neg h7,if_neg h7,if_pos (by omega)]) A.length 0 [] (by omega) (by omega) (by simp)
 simpa using h
def pair (a b c q:Int):List S93:=[⟨a,c,-q⟩,⟨b,c,q⟩]
theorem C6s {a b c q:Int} (ha:N1.No a) (hb:N1.No b) (hc:N1.No c) (h0:1≤q) (h1:q≤1000000000000000):G1.okL (pair a b c q)=true:=by
 refine (G1.okL_iff _).2 ⟨⟨by simp [pair],fun x hx=>?_⟩,fun j hj=>?_⟩
 · rcases List.mem_cons.1 hx with rfl | hx
   · exact ⟨ha,hc,by unfold N1.Amt;dsimp only;omega⟩
   · rcases List.mem_cons.1 hx with rfl | hx
     · exact ⟨hb,hc,by unfold N1.Amt;dsimp only;omega⟩
     · cases hx
 · have:j=0∨j=1:=by simp [pair] at hj;omega
   rcases this with rfl | rfl<;>simp [pair,G1.sumL]<;>omega
theorem B7x {a b c q:Int} (ha:N1.No a) (hb:N1.No b) (hc:N1.No c) (h0:1≤q) (h1:q≤1000000000000000) {B:LB} (hB:B1.okB B=true) {s:List Int} (hs:s.length≤20) :
 ((B5.postB B (pair a b c q) s).2=0∨(B5.postB B (pair a b c q) s).2=3∨(B5.postB B (pair a b c q) s).2=4∨(B5.postB B (pair a b c q) s).2=5):=by
 have hk:=C6s ha hb hc h0 h1
 unfold B5.postB
 rw [if_pos ⟨hB,(G1.rightL_iff _).2 ((G1.okL_iff _).1 hk).1,hs⟩,if_pos hk]
 unfold B5.mainB
 split
 · exact .inr (.inr (.inl rfl))
 · unfold B5.endB
   split
   · exact .inr (.inl rfl)
   · split
     · exact .inl rfl
     · exact .inr (.inr (.inr rfl))
theorem D2v (a b c:Int):N6.f ([a]++[b]++[c])=some (decide (N1.No a∧N1.No b∧N1.No c)):=by
 unfold N6.f
 congr 1
 rw [Bool.eq_iff_iff,decide_eq_true_iff]
 simp [N6.bad,N1.No,and_assoc]
end Go.Proofs.YtmfgajbkcnlkcaaGreat.BI
namespace Go.Proofs.YtmfgajbkcnlkcaaGreat.Pure
open Go Go.RowKit Go.Proofs.YtmfgajbkcnlkcaaGreat.P Go.Proofs.YtmfgajbkcnlkcaaGreatW.PrintWords Go.Proofs.YtmfgajbkcnlkcaaGreatW.PrintLast Go.Proofs.YtmfgajbkcnlkcaaGreat.EV Go.Proofs.YtmfgajbkcnlkcaaGreat.T1 Go.Proofs.YtmfgajbkcnlkcaaGreat.T2 Go.Proofs.YtmfgajbkcnlkcaaGreat.K1 Go.Proofs.YtmfgajbkcnlkcaaGreat.BK Go.Proofs.YtmfgajbkcnlkcaaGreat.BC Go.Proofs.YtmfgajbkcnlkcaaGreat.C1 Go.Proofs.YtmfgajbkcnlkcaaGreat.C2 Go.Proofs.YtmfgajbkcnlkcaaGreat.BA Go.Proofs.YtmfgajbkcnlkcaaGreat.BI
theorem ev_ {α:Type} {g:Nat→Option α} {r:α} (h:Ev g r:=by
 repeat' first
 | with_reducible exact F3 fun _=>rfl
 | refine B8 (by assumption) ?_
 | refine Ev.congr (fun k=>if_pos (by first | rfl | assumption | omega | (dsimp only;omega))) ?_
 | refine Ev.congr (fun k=>if_neg (by first | assumption | omega | decide | (dsimp only;omega) | (simp;done))) ?_):Ev g r:=h
set_option maxHeartbeats 16000000 in
theorem B8n (A:LA) (I:LI) (B:LB) (L:LL) (T:LT) (d a1 a2 a3 a4 a5:Int) (mA:A.length≤1048576) (mI:I.length≤1048576) (mB:B.length≤1048576) (mL:L.length≤1048576) (mT:T.length≤1048576) :
 ∃ r:LA×LI×LB×LL×LT×Int×Int×Int,Ev (fun k=>Y0.f k A I B L T d a1 a2 a3 a4 a5) r∧Ev (fun k=>T8.f k A I B L T d a1 a2 a3 a4 a5) r∧C0y (r.1,r.2.1,r.2.2.1,r.2.2.2.1,r.2.2.2.2.1,r.2.2.2.2.2.1):=by
 unfold Y0.f T8.f
 have z0:C0y ([],[],[],[],[],0):=⟨by simp,by simp,by simp,by simp,by simp⟩
 obtain ⟨r,bS,bI,ht⟩:=C0n A I B L T d mA mI mB mL mT
 cases r with
 | false=>exact ⟨([],[],[],[],[],0,0,1),ev_,ev_,z0⟩
 | true=>
   obtain ⟨okA1,okI1,okB1,okL1,d0,d1⟩:=ht rfl
   have s1:Ev (fun _=>I3.f a1) (decide (N1.No a1)):=F3 fun _=>N1.no_s a1
   have s2:Ev (fun _=>I3.f a2) (decide (N1.No a2)):=F3 fun _=>N1.no_s a2
   have s3:Ev (fun _=>I3.f a3) (decide (N1.No a3)):=F3 fun _=>N1.no_s a3
   have s4:Ev (fun _=>J9.f a4 1) (decide (1≤a4∧a4≤1000000000000000)):=F3 fun _=>F1.some_s a4 1
   have s5:Ev (fun _=>N9.f a5 1 3) (decide (1≤a5∧a5≤3)):=F3 fun _=>I1.in_s a5 1 3
   have i1:Ev (fun _=>N6.f ([a1]++[a2]++[a3])) (decide (N1.No a1∧N1.No a2∧N1.No a3)):=F3 fun _=>D2v a1 a2 a3
   have i4:Ev (fun _=>J7.f a4 1 1000000000000000) (decide (1≤a4∧a4≤1000000000000000)):=F3 fun _=>I1.in_i a4 1 _
   have i5:Ev (fun _=>J7.f a5 1 3) (decide (1≤a5∧a5≤3)):=F3 fun _=>I1.in_i a5 1 3
   have cS:Ev (fun _=>D5.f A I B L T d) (A,I,B,L,T,d):=F3 fun _=>D1v A I B L T d mA mI mB mL mT
   have cI:Ev (fun _=>E9.f A I B L T d) (A,I,B,L,T,d):=F3 fun _=>D1w A I B L T d mA mI mB mL mT
   by_cases c1:N1.No a1
   case neg=>rw [decide_eq_false c1] at s1;rw [decide_eq_false (fun h=>c1 h.1)] at i1;exact ⟨([],[],[],[],[],0,0,1),ev_,ev_,z0⟩
   by_cases c2:N1.No a2
   case neg=>rw [decide_eq_true c1] at s1;rw [decide_eq_false c2] at s2;rw [decide_eq_false (fun h=>c2 h.2.1)] at i1;exact ⟨([],[],[],[],[],0,0,1),ev_,ev_,z0⟩
   by_cases c3:N1.No a3
   case neg=>rw [decide_eq_true c1] at s1;rw [decide_eq_true c2] at s2;rw [decide_eq_false c3] at s3;rw [decide_eq_false (fun h=>c3 h.2.2)] at i1;exact ⟨([],[],[],[],[],0,0,1),ev_,ev_,z0⟩
   rw [decide_eq_true c1] at s1;rw [decide_eq_true c2] at s2;rw [decide_eq_true c3] at s3;rw [decide_eq_true ⟨c1,c2,c3⟩] at i1
   by_cases c4:1≤a4∧a4≤1000000000000000
   case neg=>rw [decide_eq_false c4] at s4 i4;exact ⟨([],[],[],[],[],0,0,1),ev_,ev_,z0⟩
   rw [decide_eq_true c4] at s4 i4
   by_cases c5:1≤a5∧a5≤3
   case neg=>rw [decide_eq_false c5] at s5 i5;exact ⟨([],[],[],[],[],0,0,1),ev_,ev_,z0⟩
   rw [decide_eq_true c5] at s5 i5
   have same:C0y (A,I,B,L,T,d):=⟨by dsimp only;omega,by dsimp only;omega,by dsimp only;omega,by dsimp only;omega,by dsimp only;omega⟩
   have x1:Ev (fun k=>C9.f k A a1) (U8 A a1):=by have:=A6d A a1 (by omega);unfold A8y at this;rwa [if_pos okA1] at this
   have x2:Ev (fun k=>C9.f k A a2) (U8 A a2):=by have:=A6d A a2 (by omega);unfold A8y at this;rwa [if_pos okA1] at this
   have x3:Ev (fun k=>D6.f k I a3) (Z1 I a3):=by have:=B0q I a3 (by omega);unfold B4a at this;rwa [if_pos okI1] at this
   have y1:=A2n A a1 (by omega)
   have y2:=A2n A a2 (by omega)
   have y3:=A6e I a3 (by omega)
   generalize U8 A a1=x at x1 y1
   generalize U8 A a2=y at x2 y2
   generalize Z1 I a3=z at x3 y3
   by_cases hx0:x=0
   · exact ⟨(A,I,B,L,T,d,0,3),ev_,ev_,same⟩
   by_cases hy0:y=0
   · exact ⟨(A,I,B,L,T,d,0,3),ev_,ev_,same⟩
   by_cases hz0:z=0
   · have hz':¬ (!decide (z=0))=true:=by simp [hz0]
     exact ⟨(A,I,B,L,T,d,0,3),ev_,ev_,same⟩
   have hz':(!decide (z=0))=true:=by simp [hz0]
   by_cases hx:x=1
   case neg=>exact ⟨(A,I,B,L,T,d,0,4),ev_,ev_,same⟩
   by_cases hy:y=1
   case neg=>exact ⟨(A,I,B,L,T,d,0,4),ev_,ev_,same⟩
   by_cases hab:a1=a2
   · exact ⟨(A,I,B,L,T,d,0,4),ev_,ev_,same⟩
   have w4:wrap64 (-a4) = -a4:=by unfold wrap64;omega
   have w4':wrap64 (0-a4) = -a4:=by unfold wrap64;omega
   have wd:wrap64 (d+1)=d+1:=by unfold wrap64;omega
   have lA:(W4 A).length≤20:=Nat.le_trans (A7i A) ((A8r A).1 okA1).1
   have pS:Ev (fun _=>Y7.f a1 a2 a3 a4) (pair a1 a2 a3 a4):=F3 fun _=>by unfold Y7.f pair;rw [w4]
   have hS:=C6o A I B L T d mA
   have qS:=B5.post_s B (pair a1 a2 a3 a4) (W4 A) (by omega)
   have qI:Ev (fun k=>R3.l0 k d A I B L T ([(⟨a1,a3,wrap64 (0-a4)⟩:S93)]++[(⟨a2,a3,a4⟩:S93)]) (A.length:Int) 0 []) (C3u (B5.postB B (pair a1 a2 a3 a4) (W4 A))):=by
    rw [w4'];exact C8s A I B L T (pair a1 a2 a3 a4) d mA mB
   have hcode:=B7x c1 c2 c3 c4.1 c4.2 okB1 lA
   have hlen:(B5.postB B (pair a1 a2 a3 a4) (W4 A)).1.length≤1048577:=by
    have h1:=B6.postB_len B (pair a1 a2 a3 a4) (W4 A)
    have h2:=((B1.okB_iff B).1 okB1).1
    omega
   generalize B5.postB B (pair a1 a2 a3 a4) (W4 A)=p at qS qI hcode hlen
   obtain ⟨pB,pc⟩:=p
   dsimp only at hcode hlen
   have tS:=E7.take_s L a1 a3 a4 a5 mL
   have tI:=E7.take_r L a1 a3 a4 a5 mL
   have tlen:=E7.take_len L a1 a3 a4 a5
   have lL:=((E1.ok_iff L).1 okL1).1
   generalize E7.takeR L a1 a3 a4 a5=t at tS tI tlen
   obtain ⟨tL,tq,tc⟩:=t
   dsimp only at tlen
   have oS:Ev (fun k=>I7.f k tL a2 a3 (wrap64 (d+1)) a4 tq) (E4.openL tL ⟨a2,a3,d+1,a4,tq⟩):=by rw [wd];exact E4.open_s tL ⟨a2,a3,d+1,a4,tq⟩ (by omega)
   have oI:Ev (fun k=>D1.f k tL a2 a3 (wrap64 (d+1)) a4 tq) (E4.openL tL ⟨a2,a3,d+1,a4,tq⟩):=by rw [wd];exact E4.open_i tL ⟨a2,a3,d+1,a4,tq⟩ (by omega)
   have olen:=E4.open_len tL ⟨a2,a3,d+1,a4,tq⟩
   generalize E4.openL tL ⟨a2,a3,d+1,a4,tq⟩=o at oS oI olen
   obtain ⟨oL,oc⟩:=o
   dsimp only at olen
   have posted:C0y (A,I,pB,L,T,d):=⟨by dsimp only;omega,by dsimp only;omega,hlen,by dsimp only;omega,by dsimp only;omega⟩
   have opened:C0y (A,I,pB,oL,T,wrap64 (d+1)):=⟨by dsimp only;omega,by dsimp only;omega,hlen,by dsimp only;omega,by dsimp only;omega⟩
   rcases hcode with rfl | rfl | rfl | rfl
   · replace qI:Ev (fun k=>R3.l0 k d A I B L T ([(⟨a1,a3,wrap64 (0-a4)⟩:S93)]++[(⟨a2,a3,a4⟩:S93)]) (A.length:Int) 0 []) (true,pB,0):=qI
     by_cases hz2:z=2
     case neg=>exact ⟨(A,I,pB,L,T,d,0,0),ev_,ev_,posted⟩
     by_cases ht0:tc=0
     case neg=>exact ⟨(A,I,B,L,T,d,0,5),ev_,ev_,same⟩
     by_cases hd:d≥1000000000
     · exact ⟨(A,I,B,L,T,d,0,7),ev_,ev_,same⟩
     by_cases ho:oc=0
     · exact ⟨(A,I,pB,oL,T,wrap64 (d+1),tq,0),ev_,ev_,opened⟩
     · exact ⟨(A,I,B,L,T,d,0,7),ev_,ev_,same⟩
   · replace qI:Ev (fun k=>R3.l0 k d A I B L T ([(⟨a1,a3,wrap64 (0-a4)⟩:S93)]++[(⟨a2,a3,a4⟩:S93)]) (A.length:Int) 0 []) (false,[],5):=qI
     exact ⟨(A,I,B,L,T,d,0,5),ev_,ev_,same⟩
   · replace qI:Ev (fun k=>R3.l0 k d A I B L T ([(⟨a1,a3,wrap64 (0-a4)⟩:S93)]++[(⟨a2,a3,a4⟩:S93)]) (A.length:Int) 0 []) (false,[],8):=qI
     exact ⟨(A,I,B,L,T,d,0,8),ev_,ev_,same⟩
   · replace qI:Ev (fun k=>R3.l0 k d A I B L T ([(⟨a1,a3,wrap64 (0-a4)⟩:S93)]++[(⟨a2,a3,a4⟩:S93)]) (A.length:Int) 0 []) (false,[],7):=qI
     exact ⟨(A,I,B,L,T,d,0,7),ev_,ev_,same⟩
theorem FnExactBookMove:∀ (l0_0:List (S103)) (l0_1:List (S105)) (l0_2:List (S108)) (l0_3:List (S112)) (l0_4:List (S114)) (a0_5:Int) (a1:Int) (a2:Int) (a3:Int) (a4:Int) (a5:Int),l0_0.length≤9223372036854775807→(∀ x∈l0_0,(Lit.int .i64 x.f0).wf=true∧(Lit.int .i64 x.f1).wf=true)→l0_1.length≤9223372036854775807→(∀ x∈l0_1,(Lit.int .i64 x.f0).wf=true∧(Lit.int .i64 x.f1).wf=true)→l0_2.length≤9223372036854775807→(∀ x∈l0_2,(Lit.int .i64 x.f0).wf=true∧(Lit.int .i64 x.f1).wf=true∧(Lit.int .i64 x.f2).wf=true)→l0_3.length≤9223372036854775807→(∀ x∈l0_3,(Lit.int .i64 x.f0).wf=true∧(Lit.int .i64 x.f1).wf=true∧(Lit.int .i64 x.f2).wf=true∧(Lit.int .i64 x.f3).wf=true∧(Lit.int .i64 x.f4).wf=true)→l0_4.length≤9223372036854775807→(∀ x∈l0_4,(Lit.int .i64 x.f0).wf=true∧(Lit.int .i64 x.f1).wf=true∧(Lit.int .i64 x.f2).wf=true∧(Lit.int .i64 x.f3).wf=true∧(Lit.int .i64 x.f4).wf=true∧(Lit.int .i64 x.f5).wf=true∧(Lit.int .i64 x.f6).wf=true∧(Lit.int .i64 x.f7).wf=true)→(Lit.int .i64 a0_5).wf=true→(Lit.int .i64 a1).wf=true→(Lit.int .i64 a2).wf=true→(Lit.int .i64 a3).wf=true→(Lit.int .i64 a4).wf=true→(Lit.int .i64 a5).wf=true→∃ k,R4.f k l0_0 l0_1 l0_2 l0_3 l0_4 a0_5 a1 a2 a3 a4 a5=some true:=by
 intro l0 l1 l2 l3 l4 d a1 a2 a3 a4 a5 m0 _ m1 _ m2 _ m3 _ m4 _ _ _ _ _ _ _
 refine Ev.rounds ?_
 unfold R4.f
 rcases C3o l0 l1 l2 l3 l4 d m0 m1 m2 m3 m4 with ⟨n,hn,e⟩ | ⟨h0,h1,h2,h3,h4,n,hn,e⟩
 · exact F3 fun k=>by rw [e,Option.bind_some,if_pos hn]
 have tb:=C3i l0 l1 l2 l3 l4 d h0 h1 h2 h3 h4
 have g0:(l0.map A0f).length≤1048576:=by rw [List.length_map];exact h0
 have g1:(l1.map A2p).length≤1048576:=by rw [List.length_map];exact h1
 have g2:(l2.map B1h).length≤1048576:=by rw [List.length_map];exact h2
 have g3:(l3.map B1g).length≤1048576:=by rw [List.length_map];exact h3
 have g4:(l4.map A2o).length≤1048576:=by rw [List.length_map];exact h4
 have eb:=B5q (l0.map A0f) (l1.map A2p) (l2.map B1h) (l3.map B1g) (l4.map A2o) d (by omega) (by omega) (by omega) (by omega) (by omega)
 obtain ⟨r,hS,hI,s0,s1,s2,s3,s4⟩:=B8n (l0.map A0f) (l1.map A2p) (l2.map B1h) (l3.map B1g) (l4.map A2o) d a1 a2 a3 a4 a5 g0 g1 g2 g3 g4
 have er:=B5q r.1 r.2.1 r.2.2.1 r.2.2.2.1 r.2.2.2.2.1 r.2.2.2.2.2.1 (Nat.le_trans s0 (by decide)) (Nat.le_trans s1 (by decide)) (Nat.le_trans s2 (by decide)) (Nat.le_trans s3 (by decide)) (Nat.le_trans s4 (by decide))
 obtain ⟨u,u0,uM,_⟩:=A7p (l0.map A0f) (l1.map A2p) (l2.map B1h) (l3.map B1g) (l4.map A2o) d (by omega) (by omega) (by omega) (by omega) (by omega)
 obtain ⟨v,v0,vM,vH⟩:=A7p r.1 r.2.1 r.2.2.1 r.2.2.2.1 r.2.2.2.2.1 r.2.2.2.2.2.1 s0 s1 s2 s3 s4
 refine Ev.congr (fun k=>by rw [e,Option.bind_some,if_neg (by omega)]) ?_
 exact B8 tb (B8 hS (B8 tb (B8 hI (B8 er (Ev.congr (fun k=>if_pos rfl) (Ev.congr (fun k=>if_pos rfl) (Ev.congr (fun k=>if_pos rfl) (B8 tb (B8 eb (Ev.congr (fun k=>if_pos rfl) (B8 uM (Ev.congr (fun k=>if_neg (by omega)) (B8 er (Ev.congr (fun k=>if_pos rfl) (Ev.congr (fun k=>if_pos rfl) (Ev.congr (fun k=>if_pos rfl) (B8 vM (B8 vH (Ev.congr (fun k=>if_neg (by omega)) (Ev.congr (fun k=>if_pos rfl) (B8 tb (B8 hI (B8 er (Ev.congr (fun k=>if_pos rfl) (Ev.congr (fun k=>if_pos rfl) (Ev.congr (fun k=>if_pos rfl) (B8 vH (Ev.congr (fun k=>if_neg (by omega)) (F3 fun k=>if_pos rfl)))))))))))))))))))))))))))))
end Go.Proofs.YtmfgajbkcnlkcaaGreat.Pure
namespace Go.Proofs.YtmfgajbkcnlkcaaGreat.RS
open Go Go.ChangeShapes Go.WideShapes Go.Deep Go.RowKit Go.Proofs.YtmfgajbkcnlkcaaGreatW.PrintWords
def C0v (P:Program) (fs:Array Field):Bool:=(List.range fs.size).all fun i=>match fs[i]? with
 | some f=>(match P.underlying f.type with | some (.int .i64)=>true | _=>false)
 | none=>false
theorem B6w {P:Program} {fs:Array Field} (h:C0v P fs=true):∀ (i:Nat) (f:Field),fs[i]? = some f→P.underlying f.type=some (.int .i64):=by
 intro i f hi
 have hlt:i<fs.size:=(Array.getElem?_eq_some_iff.1 hi).1
 have z:=List.all_eq_true.1 h i (List.mem_range.2 hlt)
 simp only [hi] at z
 split at z
 · assumption
 · cases z
section
variable {H:Type} {enc:TypeId×Value→H} {P:Program} {w:World} {base:Nat} {spare:Nat→Bool} {held:Bool}
theorem open_rows {t e:TypeId} {fs:Array Field} {fuel:Nat} {v:Value} {x:DataW H×List MemPlace} (ht:P.underlying t=some (.slice e)) (he:P.underlying e=some (.struct fs))
 (hone:oneCellFields P fs=true) (hint:C0v P fs=true) (hC:P.cellsOf e=fs.size) (h:DataW.trod enc P w base spare held fuel t [v]=some x) :
 ∃ (A:Option Addr) (len cap:Nat) (X:Nat→Nat→Int),v = .slice A len cap∧len≤cap∧cap≤maxLen ∧
  (0<len→∃ ad,A=some ad∧∀ i,i<len→∀ j,j<fs.size→w.cell? (ad.add (i*fs.size+j))=some (.int .i64 (X i j))∧(Lit.int .i64 (X i j)).wf=true):=by
 rcases open_slice ht h with ⟨hcs,_⟩ | ⟨a,len,cap,m,n,D,Pl,hcs,_,hl,hm,hmm,_,hi⟩
 · simp only [List.cons.injEq,and_true] at hcs
   exact ⟨none,0,0,fun _ _=>0,hcs,Nat.le_refl _,Nat.zero_le _,fun hp=>absurd hp (Nat.lt_irrefl 0)⟩
 · simp only [List.cons.injEq,and_true] at hcs
   have hmle:len≤m:=by rw [hmm];split<;>omega
   have key:∀ i,i<len→∃ f:Nat→Int,∀ j,j<fs.size→w.cell? (a.add (i*fs.size+j))=some (.int .i64 (f j))∧(Lit.int .i64 (f j)).wf=true:=by
    intro i him
    obtain ⟨cs',hc,ht'⟩:=hi i (by omega)
    rw [hC] at hc
    obtain ⟨ys,n',hn',hy,hlen,hyl,hf⟩:=DataW.trod_struct he ht'
    obtain ⟨_,hcl,hat⟩:=World.cells?_some hc
    refine choose_lt (α:=Int) (n:=fs.size) (p:=fun j q=>w.cell? (a.add (i*fs.size+j))=some (.int .i64 q)∧(Lit.int .i64 q).wf=true) fun j hj=>?_
    have hfj:fs[j]? = some fs[j]:=Array.getElem?_eq_getElem hj
    obtain ⟨ho,hk⟩:=hone_of hone j _ hfj
    have h1:=hf j _ hfj
    rw [ho,hk,take1_drop cs' j undef (by omega)] at h1
    have hys:ys[j]? = some (ys[j]'(by omega)):=List.getElem?_eq_getElem (by omega)
    rw [hys] at h1
    obtain ⟨q,hq,_,hwf⟩:=DataW.trod_int (B6w hint j _ hfj) h1
    simp only [List.cons.injEq,and_true] at hq
    have hcell:=hat j (by omega)
    rw [List.getElem?_eq_getElem (by omega)] at hcell
    have hgd:cs'.getD j undef=cs'[j]'(by omega):=by
     rw [List.getD_eq_getElem?_getD,List.getElem?_eq_getElem (by omega),Option.getD_some]
    rw [hgd] at hq
    exact ⟨q,by rw [← Go.Deep.add_add,hcell,hq],hwf⟩
   obtain ⟨X,hX⟩:=choose_lt (α:=Nat→Int) (n:=len) (p:=fun i f=>∀ j,j<fs.size→w.cell? (a.add (i*fs.size+j))=some (.int .i64 (f j))∧(Lit.int .i64 (f j)).wf=true) key
   exact ⟨some a,len,cap,X,hcs,hl,hm,fun _=>⟨a,rfl,fun i him=>hX i him⟩⟩
theorem open_val {r:Reach} {b0:Nat} {t:TypeId} {fs:Array Field} {v:Value} {d:DataW H} {p:List MemPlace} (hs:P.underlying t=some (.struct fs)) (hone:oneCellFields P fs=true) (hC:P.cellsOf t=fs.size)
 (hv:Value.okWide P w r b0 t v) (h:DataW.Trod enc P w base spare held t v d p) :
 ∃ (cs:List Value) (n:Nat),v = .agg cs.toArray∧cs.length=fs.size∧∀ (j:Nat) (f:Field),fs[j]? = some f→∃ y,DataW.trod enc P w base spare held n f.type [cs.getD j undef]=some y:=by
 obtain ⟨cs,rfl,hsz⟩:=okWide_struct hs hv
 obtain ⟨l⟩:=cs
 obtain ⟨fuel,hf⟩:=h
 obtain ⟨ys,n,_,_,_,hyl,hg⟩:=DataW.trod_struct hs hf
 have hl:l.length=fs.size:=by rw [← hC];exact hsz
 refine ⟨l,n,rfl,hl,fun j f hj=>?_⟩
 have hjl:j<fs.size:=(Array.getElem?_eq_some_iff.1 hj).1
 obtain ⟨ho,hk⟩:=hone_of hone j f hj
 have h1:=hg j f hj
 have hcells:(Value.agg ⟨l⟩).cells.toList=l:=rfl
 rw [ho,hk] at h1
 first | rw [hcells,take1_drop l j undef (by omega)] at h1 | rw [take1_drop l j undef (by omega)] at h1
 have hys:ys[j]? = some (ys[j]'(by omega)):=List.getElem?_eq_getElem (by omega)
 exact ⟨_,h1.trans hys⟩
theorem int_of {n:Nat} {t:TypeId} {v:Value} {x:DataW H×List MemPlace} (ht:P.underlying t=some (.int .i64)) (h:DataW.trod enc P w base spare held n t [v]=some x):∃ q:Int,v = .int .i64 q∧(Lit.int .i64 q).wf=true:=by
 obtain ⟨q,hq,_,hw⟩:=DataW.trod_int ht h
 simp only [List.cons.injEq,and_true] at hq
 exact ⟨q,hq,hw⟩
end
theorem getD_range {α:Type} (n:Nat) (f:Nat→α) (i:Nat) (p:α) (h:((List.range n).map f)[i]? = some p):i<n∧p=f i:=by
 have hi:=(List.getElem?_eq_some_iff.1 h).1
 simp only [List.length_map,List.length_range] at hi
 refine ⟨hi,?_⟩
 rw [List.getElem?_map,List.getElem?_range hi] at h
 simpa using h.symm
theorem mem_map_range {α:Type} {n:Nat} {f:Nat→α} {x:α} (h:x∈(List.range n).map f):∃ i,i<n∧x=f i:=by
 obtain ⟨i,hi,rfl⟩:=List.mem_map.1 h
 exact ⟨i,List.mem_range.1 hi,rfl⟩
theorem len6:∀ {cs:List Value},cs.length=6→∃ x0 x1 x2 x3 x4 x5,cs=[x0,x1,x2,x3,x4,x5]
 | [x0,x1,x2,x3,x4,x5],_=>⟨x0,x1,x2,x3,x4,x5,rfl⟩
end Go.Proofs.YtmfgajbkcnlkcaaGreat.RS
namespace Go.Proofs.YtmfgajbkcnlkcaaGreat.RT
open Go Go.RowKit Go.Proofs.YtmfgajbkcnlkcaaGreat.P Go.Proofs.YtmfgajbkcnlkcaaGreatW.PrintWords Go.Proofs.YtmfgajbkcnlkcaaGreatW.PrintLast
theorem row103 {W:World} {A:Option Addr} {len:Nat} {X:Nat→Nat→Int} (hm:len≤maxLen) (hx:0<len→∃ ad,A=some ad∧∀ i,i<len→∀ j,j<2→W.cell? (ad.add (i*2+j))=some (.int .i64 (X i j))∧(Lit.int .i64 (X i j)).wf=true) :
 ∃ l:List S103,len=l.length∧Kd.C k103 W A l.length l∧∀ x∈l,(Lit.int .i64 x.f0).wf=true∧(Lit.int .i64 x.f1).wf=true:=by
 refine ⟨(List.range len).map fun i=>(⟨X i 0,X i 1⟩:S103),by simp,⟨rfl,by simp only [List.length_map,List.length_range];exact hm,fun hn=>?_⟩,fun x hxm=>?_⟩
 · obtain ⟨ad,e,hc⟩:=hx (by simpa using hn)
   refine ⟨ad,e,fun j p hj=>⟨_,rfl,B9o W p,fun i u hu=>?_⟩⟩
   obtain ⟨hjl,rfl⟩:=RS.getD_range _ _ _ _ hj
   have hi:i<2:=(List.getElem?_eq_some_iff.1 hu).1
   have hcell:=(hc j hjl i hi).1
   match i,hi,hu,hcell with
   | 0,_,hu,hcell=>exact hcell.trans hu
   | 1,_,hu,hcell=>exact hcell.trans hu
 · obtain ⟨i,hi,rfl⟩:=RS.mem_map_range hxm
   obtain ⟨ad,e,hc⟩:=hx (by omega)
   exact ⟨(hc i hi 0 (by decide)).2,(hc i hi 1 (by decide)).2⟩
theorem row105 {W:World} {A:Option Addr} {len:Nat} {X:Nat→Nat→Int} (hm:len≤maxLen) (hx:0<len→∃ ad,A=some ad∧∀ i,i<len→∀ j,j<2→W.cell? (ad.add (i*2+j))=some (.int .i64 (X i j))∧(Lit.int .i64 (X i j)).wf=true) :
 ∃ l:List S105,len=l.length∧Kd.C k105 W A l.length l∧∀ x∈l,(Lit.int .i64 x.f0).wf=true∧(Lit.int .i64 x.f1).wf=true:=by
 refine ⟨(List.range len).map fun i=>(⟨X i 0,X i 1⟩:S105),by simp,⟨rfl,by simp only [List.length_map,List.length_range];exact hm,fun hn=>?_⟩,fun x hxm=>?_⟩
 · obtain ⟨ad,e,hc⟩:=hx (by simpa using hn)
   refine ⟨ad,e,fun j p hj=>⟨_,rfl,B9m W p,fun i u hu=>?_⟩⟩
   obtain ⟨hjl,rfl⟩:=RS.getD_range _ _ _ _ hj
   have hi:i<2:=(List.getElem?_eq_some_iff.1 hu).1
   have hcell:=(hc j hjl i hi).1
   match i,hi,hu,hcell with
   | 0,_,hu,hcell=>exact hcell.trans hu
   | 1,_,hu,hcell=>exact hcell.trans hu
 · obtain ⟨i,hi,rfl⟩:=RS.mem_map_range hxm
   obtain ⟨ad,e,hc⟩:=hx (by omega)
   exact ⟨(hc i hi 0 (by decide)).2,(hc i hi 1 (by decide)).2⟩
theorem row108 {W:World} {A:Option Addr} {len:Nat} {X:Nat→Nat→Int} (hm:len≤maxLen) (hx:0<len→∃ ad,A=some ad∧∀ i,i<len→∀ j,j<3→W.cell? (ad.add (i*3+j))=some (.int .i64 (X i j))∧(Lit.int .i64 (X i j)).wf=true) :
 ∃ l:List S108,len=l.length∧Kd.C k108 W A l.length l∧∀ x∈l,(Lit.int .i64 x.f0).wf=true∧(Lit.int .i64 x.f1).wf=true∧(Lit.int .i64 x.f2).wf=true:=by
 refine ⟨(List.range len).map fun i=>(⟨X i 0,X i 1,X i 2⟩:S108),by simp,⟨rfl,by simp only [List.length_map,List.length_range];exact hm,fun hn=>?_⟩,fun x hxm=>?_⟩
 · obtain ⟨ad,e,hc⟩:=hx (by simpa using hn)
   refine ⟨ad,e,fun j p hj=>⟨_,rfl,B9k W p,fun i u hu=>?_⟩⟩
   obtain ⟨hjl,rfl⟩:=RS.getD_range _ _ _ _ hj
   have hi:i<3:=(List.getElem?_eq_some_iff.1 hu).1
   have hcell:=(hc j hjl i hi).1
   match i,hi,hu,hcell with
   | 0,_,hu,hcell=>exact hcell.trans hu
   | 1,_,hu,hcell=>exact hcell.trans hu
   | 2,_,hu,hcell=>exact hcell.trans hu
 · obtain ⟨i,hi,rfl⟩:=RS.mem_map_range hxm
   obtain ⟨ad,e,hc⟩:=hx (by omega)
   exact ⟨(hc i hi 0 (by decide)).2,(hc i hi 1 (by decide)).2,(hc i hi 2 (by decide)).2⟩
theorem row112 {W:World} {A:Option Addr} {len:Nat} {X:Nat→Nat→Int} (hm:len≤maxLen) (hx:0<len→∃ ad,A=some ad∧∀ i,i<len→∀ j,j<5→W.cell? (ad.add (i*5+j))=some (.int .i64 (X i j))∧(Lit.int .i64 (X i j)).wf=true) :
 ∃ l:List S112,len=l.length∧Kd.C k112 W A l.length l∧∀ x∈l,(Lit.int .i64 x.f0).wf=true∧(Lit.int .i64 x.f1).wf=true∧(Lit.int .i64 x.f2).wf=true∧(Lit.int .i64 x.f3).wf=true∧(Lit.int .i64 x.f4).wf=true:=by
 refine ⟨(List.range len).map fun i=>(⟨X i 0,X i 1,X i 2,X i 3,X i 4⟩:S112),by simp,⟨rfl,by simp only [List.length_map,List.length_range];exact hm,fun hn=>?_⟩,fun x hxm=>?_⟩
 · obtain ⟨ad,e,hc⟩:=hx (by simpa using hn)
   refine ⟨ad,e,fun j p hj=>⟨_,rfl,B9i W p,fun i u hu=>?_⟩⟩
   obtain ⟨hjl,rfl⟩:=RS.getD_range _ _ _ _ hj
   have hi:i<5:=(List.getElem?_eq_some_iff.1 hu).1
   have hcell:=(hc j hjl i hi).1
   match i,hi,hu,hcell with
   | 0,_,hu,hcell=>exact hcell.trans hu
   | 1,_,hu,hcell=>exact hcell.trans hu
   | 2,_,hu,hcell=>exact hcell.trans hu
   | 3,_,hu,hcell=>exact hcell.trans hu
   | 4,_,hu,hcell=>exact hcell.trans hu
 · obtain ⟨i,hi,rfl⟩:=RS.mem_map_range hxm
   obtain ⟨ad,e,hc⟩:=hx (by omega)
   exact ⟨(hc i hi 0 (by decide)).2,(hc i hi 1 (by decide)).2,(hc i hi 2 (by decide)).2,(hc i hi 3 (by decide)).2,(hc i hi 4 (by decide)).2⟩
theorem row114 {W:World} {A:Option Addr} {len:Nat} {X:Nat→Nat→Int} (hm:len≤maxLen) (hx:0<len→∃ ad,A=some ad∧∀ i,i<len→∀ j,j<8→W.cell? (ad.add (i*8+j))=some (.int .i64 (X i j))∧(Lit.int .i64 (X i j)).wf=true) :
 ∃ l:List S114,len=l.length∧Kd.C k114 W A l.length l∧∀ x∈l,(Lit.int .i64 x.f0).wf=true∧(Lit.int .i64 x.f1).wf=true∧(Lit.int .i64 x.f2).wf=true∧(Lit.int .i64 x.f3).wf=true∧(Lit.int .i64 x.f4).wf=true∧(Lit.int .i64 x.f5).wf=true∧(Lit.int .i64 x.f6).wf=true∧(Lit.int .i64 x.f7).wf=true:=by
 refine ⟨(List.range len).map fun i=>(⟨X i 0,X i 1,X i 2,X i 3,X i 4,X i 5,X i 6,X i 7⟩:S114),by simp,⟨rfl,by simp only [List.length_map,List.length_range];exact hm,fun hn=>?_⟩,fun x hxm=>?_⟩
 · obtain ⟨ad,e,hc⟩:=hx (by simpa using hn)
   refine ⟨ad,e,fun j p hj=>⟨_,rfl,B9g W p,fun i u hu=>?_⟩⟩
   obtain ⟨hjl,rfl⟩:=RS.getD_range _ _ _ _ hj
   have hi:i<8:=(List.getElem?_eq_some_iff.1 hu).1
   have hcell:=(hc j hjl i hi).1
   match i,hi,hu,hcell with
   | 0,_,hu,hcell=>exact hcell.trans hu
   | 1,_,hu,hcell=>exact hcell.trans hu
   | 2,_,hu,hcell=>exact hcell.trans hu
   | 3,_,hu,hcell=>exact hcell.trans hu
   | 4,_,hu,hcell=>exact hcell.trans hu
   | 5,_,hu,hcell=>exact hcell.trans hu
   | 6,_,hu,hcell=>exact hcell.trans hu
   | 7,_,hu,hcell=>exact hcell.trans hu
 · obtain ⟨i,hi,rfl⟩:=RS.mem_map_range hxm
   obtain ⟨ad,e,hc⟩:=hx (by omega)
   exact ⟨(hc i hi 0 (by decide)).2,(hc i hi 1 (by decide)).2,(hc i hi 2 (by decide)).2,(hc i hi 3 (by decide)).2,(hc i hi 4 (by decide)).2,(hc i hi 5 (by decide)).2,(hc i hi 6 (by decide)).2,(hc i hi 7 (by decide)).2⟩
end Go.Proofs.YtmfgajbkcnlkcaaGreat.RT
namespace Go.Proofs.YtmfgajbkcnlkcaaGreat.fnExactBookMove
open Go.ChangeShapes Go.WideShapes Go.ChangeAt Go.RowKit Go.Proofs.YtmfgajbkcnlkcaaGreatW.PrintWords
open Go.ChangeMaps (open_string shut_string)
set_option linter.unusedVariables false
theorem own:ownKnob Tryz.prog.godebug=none:=by kernel_rfl
theorem C7l:laidOutB Tryz.prog=true:=by kernel_rfl
set_option maxRecDepth 100000 in
theorem C9k (os:Os) (started:os.Started) (H:Type) (enc:TypeId×Value→H) :
 ReturnsInHanded {} Tryz.checked os 7 .any (Rows.fnExactBookMoveSpec.pre6 enc Tryz.prog Tryz.f7 Rows.fnExactBookMoveRow.domain false) (Rows.fnExactBookMoveSpec.post enc Tryz.prog Tryz.f7 false true false false):=by
 refine returnsInHanded_of_change_sized (C:=Tryz.checked) own started (by kernel_rfl) Tryz.func7
  (ChangeSpec.witness6 (enc:=enc) (C:=Tryz.checked) false ⟨#[],#[.agg #[.slice none 0 0,.slice none 0 0,.slice none 0 0,.slice none 0 0,.slice none 0 0,.int .i64 0],.int .i64 0,.int .i64 0,.int .i64 0,.int .i64 0,.int .i64 0],[]⟩ 8 (by kernel_rfl) (by kernel_rfl) (by kernel_rfl) (by kernel_rfl)) ?_
 intro W base args ds gs before hval0 hW hcnd hsz0 _
 have hsz:(DataW.weightsEach Tryz.prog (Tryz.f7.params.toList++Rows.fnExactBookMoveSpec.plain.varTypes Tryz.prog) (ds++gs)).all (·≤reachBytes)=true:=hsz0
 have hval:∀ (j:Nat) t v,Tryz.f7.params[j]? = some t→args[j]? = some v→Value.okWide Tryz.prog W .any base t v:=hval0
 have hW':=hW
 obtain ⟨p,q,hA0,hV,rfl,hfz,hnd⟩:=hW
 have hA:DataW.TrodAll enc Tryz.prog W 0 (fun _=>true) true Tryz.f7.params.toList args.toList ds p:=hA0
 rw [Tryz.params7] at hA hval hsz
 obtain ⟨v0,vs0,d0,ds0,p0,q0,hargs,rfl,rfl,h0,r0⟩:=trodAll_cons hA
 obtain ⟨v1,vs1,d1,ds1,p1,q1,rfl,rfl,rfl,h1,r1⟩:=trodAll_cons r0
 obtain ⟨v2,vs2,d2,ds2,p2,q2,rfl,rfl,rfl,h2,r2⟩:=trodAll_cons r1
 obtain ⟨v3,vs3,d3,ds3,p3,q3,rfl,rfl,rfl,h3,r3⟩:=trodAll_cons r2
 obtain ⟨v4,vs4,d4,ds4,p4,q4,rfl,rfl,rfl,h4,r4⟩:=trodAll_cons r3
 obtain ⟨v5,vs5,d5,ds5,p5,q5,rfl,rfl,rfl,h5,r5⟩:=trodAll_cons r4
 obtain ⟨rfl,rfl,rfl⟩:=trodAll_nil r5
 obtain rfl:args=#[v0,v1,v2,v3,v4,v5]:=by cases args;simp_all
 obtain ⟨rfl,rfl⟩:=trodVars_none hV
 have k0:=h0
 have lt0:∀ x∈p0,x.block<W.heap.size:=by obtain ⟨m,hm⟩:=k0;exact DataW.trod_lt m _ _ _ hm
 obtain ⟨cs0,n0,rfl,hcl0,hg0⟩:=RS.open_val Tryz.underlying28 (by kernel_rfl) (by kernel_rfl) (hval 0 28 v0 rfl rfl) h0
 have hcn0:cs0.length=6:=hcl0.trans (by kernel_rfl)
 clear hcl0
 obtain ⟨b0_0,b0_1,b0_2,b0_3,b0_4,b0_5,rfl⟩:=RS.len6 hcn0
 obtain ⟨y0_0,hy0_0⟩:=hg0 0 _ rfl
 obtain ⟨A0_0,n0_0,c0_0,X0_0,hv0_0,hl0_0,hm0_0,hx0_0⟩:=RS.open_rows Tryz.underlying22 Tryz.underlying103 (by kernel_rfl) (by kernel_rfl) (by kernel_rfl) (v:=b0_0) hy0_0
 subst hv0_0
 obtain ⟨l0_0,e0_0,hr0_0,hw0_0⟩:=RT.row103 (Nat.le_trans hl0_0 hm0_0) hx0_0
 subst e0_0
 obtain ⟨y0_1,hy0_1⟩:=hg0 1 _ rfl
 obtain ⟨A0_1,n0_1,c0_1,X0_1,hv0_1,hl0_1,hm0_1,hx0_1⟩:=RS.open_rows Tryz.underlying23 Tryz.underlying105 (by kernel_rfl) (by kernel_rfl) (by kernel_rfl) (v:=b0_1) hy0_1
 subst hv0_1
 obtain ⟨l0_1,e0_1,hr0_1,hw0_1⟩:=RT.row105 (Nat.le_trans hl0_1 hm0_1) hx0_1
 subst e0_1
 obtain ⟨y0_2,hy0_2⟩:=hg0 2 _ rfl
 obtain ⟨A0_2,n0_2,c0_2,X0_2,hv0_2,hl0_2,hm0_2,hx0_2⟩:=RS.open_rows Tryz.underlying24 Tryz.underlying108 (by kernel_rfl) (by kernel_rfl) (by kernel_rfl) (v:=b0_2) hy0_2
 subst hv0_2
 obtain ⟨l0_2,e0_2,hr0_2,hw0_2⟩:=RT.row108 (Nat.le_trans hl0_2 hm0_2) hx0_2
 subst e0_2
 obtain ⟨y0_3,hy0_3⟩:=hg0 3 _ rfl
 obtain ⟨A0_3,n0_3,c0_3,X0_3,hv0_3,hl0_3,hm0_3,hx0_3⟩:=RS.open_rows Tryz.underlying25 Tryz.underlying112 (by kernel_rfl) (by kernel_rfl) (by kernel_rfl) (v:=b0_3) hy0_3
 subst hv0_3
 obtain ⟨l0_3,e0_3,hr0_3,hw0_3⟩:=RT.row112 (Nat.le_trans hl0_3 hm0_3) hx0_3
 subst e0_3
 obtain ⟨y0_4,hy0_4⟩:=hg0 4 _ rfl
 obtain ⟨A0_4,n0_4,c0_4,X0_4,hv0_4,hl0_4,hm0_4,hx0_4⟩:=RS.open_rows Tryz.underlying26 Tryz.underlying114 (by kernel_rfl) (by kernel_rfl) (by kernel_rfl) (v:=b0_4) hy0_4
 subst hv0_4
 obtain ⟨l0_4,e0_4,hr0_4,hw0_4⟩:=RT.row114 (Nat.le_trans hl0_4 hm0_4) hx0_4
 subst e0_4
 obtain ⟨y0_5,hy0_5⟩:=hg0 5 _ rfl
 obtain ⟨a0_5,hq0_5,hw0_5⟩:=RS.int_of (v:=b0_5) Tryz.underlying3 hy0_5
 subst hq0_5
 obtain ⟨a1,rfl,rfl,rfl,w1⟩:=open_int Tryz.underlying3 (hval 1 3 v1 rfl rfl) h1
 obtain ⟨a2,rfl,rfl,rfl,w2⟩:=open_int Tryz.underlying3 (hval 2 3 v2 rfl rfl) h2
 obtain ⟨a3,rfl,rfl,rfl,w3⟩:=open_int Tryz.underlying3 (hval 3 3 v3 rfl rfl) h3
 obtain ⟨a4,rfl,rfl,rfl,w4⟩:=open_int Tryz.underlying3 (hval 4 3 v4 rfl rfl) h4
 obtain ⟨a5,rfl,rfl,rfl,w5⟩:=open_int Tryz.underlying3 (hval 5 3 v5 rfl rfl) h5
 clear hA0 hval0 hsz0 hsz
 obtain ⟨k,hpure⟩:=Pure.FnExactBookMove l0_0 l0_1 l0_2 l0_3 l0_4 a0_5 a1 a2 a3 a4 a5 (Kd.C_max hr0_0) hw0_0 (Kd.C_max hr0_1) hw0_1 (Kd.C_max hr0_2) hw0_2 (Kd.C_max hr0_3) hw0_3 (Kd.C_max hr0_4) hw0_4 hw0_5 w1 w2 w3 w4 w5
 refine (AI.root7_ok k _ _ l0_0 _ _ l0_1 _ _ l0_2 _ _ l0_3 _ _ l0_4 a0_5 a1 a2 a3 a4 a5 true W hr0_0 hl0_0 hr0_1 hl0_1 hr0_2 hl0_2 hr0_3 hl0_3 hr0_4 hl0_4 hpure).mono fun e W' hpost=>?_
 obtain ⟨he,hd⟩:=hpost
 have bel:Below W.heap.size W W':=hd
 subst he
 exact ⟨_,rfl,_,_,_,[],_,[],hW',trodAll_mk1 (shut_bool Tryz.underlying4 _),(trodAll_cons_mk (Below.trod C7l (by kernel_rfl) (of_decide_eq_true (by kernel_rfl)) k0 bel lt0) (trodAll_cons_mk (shut_int Tryz.underlying3 w1) (trodAll_cons_mk (shut_int Tryz.underlying3 w2) (trodAll_cons_mk (shut_int Tryz.underlying3 w3) (trodAll_cons_mk (shut_int Tryz.underlying3 w4) (trodAll_cons_mk (shut_int Tryz.underlying3 w5) trodAll_mk0)))))),rfl,bel.frame _,fun h=>by cases h⟩
theorem over:Rows.fnExactBookMoveRow.holds Tryz.pinned (OpenSpec.ofChange Rows.fnExactBookMoveSpec):=
 OpenClaim.holds_of_wide 7 Tryz.f7 rfl rfl rfl rfl rfl rfl rfl ⟨rfl,rfl,rfl,rfl,rfl⟩ rfl rfl rfl rfl rfl (by kernel_rfl) Tryz.func7 (by kernel_rfl)
  (of_decide_eq_true (by kernel_rfl)) (by unfold Func.isWrapper;first | (rw [if_pos (by decide +kernel)];kernel_rfl) | (rw [if_neg (by decide +kernel)];exact ⟨rfl,rfl⟩))
  (fun os started H enc _=>C9k os started H enc)
theorem proved:Rows.FnExactBookMoveSaid:=over
#print axioms proved
end Go.Proofs.YtmfgajbkcnlkcaaGreat.fnExactBookMove
namespace Go.Proofs.YtmfgajbkcnlkcaaGreat
theorem fnExactBookMove_holds:Rows.FnExactBookMoveSaid:=fnExactBookMove.proved
end Go.Proofs.YtmfgajbkcnlkcaaGreat
